/- Printed by wip/ann.py: which slots live on behind each region and at each loop's head. Annotations alone: the evaluator is sound whatever they say. -/
import Derived.Test.YthoomlenmgdebaaGreatDoorAE1
set_option linter.unusedVariables false
namespace Go.Proofs.YthoomlenmgdebaaGreatDoor
namespace AE
def reg4 : Nat → Option (List Nat)
  | 0 => some [1, 3, 4, 5, 7]
  | 1 => some [1, 3, 4, 5, 7, 29]
  | 2 => some [10]
  | 3 => some [1, 3, 5, 7, 31]
  | 4 => some [1, 3, 5, 7, 11]
  | 5 => some [1, 3, 5, 7, 11, 34, 35]
  | 6 => some [1, 3, 5, 7, 11, 34, 35, 36]
  | 7 => some [1, 3, 5, 7, 11, 12, 34, 35]
  | 8 => some [1, 3, 5, 7, 11, 34, 35]
  | 9 => some [1, 3, 5, 7, 11, 34, 35]
  | 10 => some [1, 3, 5, 7]
  | 11 => some [1, 3, 5, 7, 13, 14]
  | 12 => some [1, 3, 5, 7, 13, 14, 15]
  | 13 => some [1, 3, 5, 7, 13, 14, 15, 58]
  | 14 => some [1, 3, 5, 7, 13, 14, 15]
  | 15 => some [1, 3, 5, 7, 13, 14, 15, 16, 17]
  | 16 => some [1, 3, 5, 7, 13, 14, 15, 16, 17, 18, 19]
  | 17 => some [1, 3, 5, 7, 13, 14, 15, 16, 17, 18, 19, 74]
  | 18 => some [1, 5, 7, 13, 14, 15, 16, 17, 18, 19]
  | 19 => some [10]
  | _ => none
def loop4 : Nat → Option (List Nat)
  | 6 => some [1, 3, 5, 7, 11, 34, 35]
  | _ => none
def reg8 : Nat → Option (List Nat)
  | 0 => some [1, 2]
  | 1 => some [2, 7, 8, 9]
  | 2 => some [2, 7, 8, 9, 10]
  | 3 => some [2, 6, 7, 8, 9]
  | 4 => some [2, 7, 8, 9, 15]
  | 5 => some [4]
  | 6 => some [2, 7, 8, 9]
  | 7 => some [4]
  | _ => none
def loop8 : Nat → Option (List Nat)
  | 2 => some [2, 7, 8, 9]
  | _ => none
def reg9 : Nat → Option (List Nat)
  | 0 => some []
  | 1 => some [1]
  | 2 => some [1, 2, 3]
  | 3 => some [1, 2, 3, 4, 5]
  | 4 => some [1, 2, 3, 4, 5, 6, 7]
  | 5 => some [1, 2, 3, 4, 5, 7, 8, 9]
  | 6 => some [1, 3, 4, 5, 7, 8, 9, 10, 11]
  | 7 => some [1, 3, 4, 5, 7, 8, 9, 10, 11, 13]
  | 8 => some [3, 4, 5, 7, 8, 9, 10, 11, 13, 15]
  | 9 => some [0]
  | _ => none
def reg10 : Nat → Option (List Nat)
  | 0 => some [1, 3, 4, 6, 8]
  | 1 => some [1, 3, 4, 6, 8, 10]
  | 2 => some [1, 3, 4, 6, 8, 10, 16]
  | 3 => some [8, 9]
  | 4 => some [3, 4, 6, 8, 26]
  | 5 => some [8, 9]
  | 6 => some [8, 9]
  | _ => none
def reg11 : Nat → Option (List Nat)
  | 0 => some [1, 2, 3]
  | 1 => some [1, 2, 3, 9]
  | 2 => some [6]
  | 3 => some [1, 2, 3, 13]
  | 4 => some [6]
  | 5 => some [1, 3, 20, 21, 22]
  | 6 => some [1, 3, 20, 21, 22, 23]
  | 7 => some [1, 3, 8, 20, 21, 22]
  | 8 => some [1, 3, 20, 21, 22, 30]
  | 9 => some [6]
  | 10 => some [1, 3, 20, 21, 22]
  | 11 => some [6]
  | _ => none
def loop11 : Nat → Option (List Nat)
  | 6 => some [1, 3, 20, 21, 22]
  | _ => none
def reg14 : Nat → Option (List Nat)
  | 0 => some [2, 3]
  | 1 => some [4]
  | _ => none
def reg15 : Nat → Option (List Nat)
  | 0 => some [1, 3, 5]
  | 1 => some [3, 5, 8]
  | 2 => some [3, 5, 8, 14]
  | 3 => some [6, 7]
  | 4 => some [6, 7]
  | _ => none
def reg16 : Nat → Option (List Nat)
  | 0 => some [2, 3]
  | 1 => some [2, 3, 17]
  | 2 => some [4]
  | 3 => some [2, 3, 5]
  | 4 => some [2, 3, 5, 7]
  | 5 => some [2, 3, 5, 7, 28, 29, 30]
  | 6 => some [2, 3, 5, 7, 28, 29, 30, 31]
  | 7 => some [2, 3, 5, 7, 8, 9, 28, 29, 30]
  | 8 => some [2, 3, 5, 7, 28, 29, 30]
  | 9 => some [2, 3, 5, 7, 28, 29, 30]
  | 10 => some [4]
  | _ => none
def loop16 : Nat → Option (List Nat)
  | 6 => some [2, 3, 5, 7, 28, 29, 30]
  | _ => none
def reg17 : Nat → Option (List Nat)
  | 0 => some [1, 2, 3, 6]
  | 1 => some [1, 2, 3, 6, 8]
  | 2 => some [1, 2, 3, 6, 8, 15]
  | 3 => some [6, 7]
  | 4 => some [1, 2, 3, 6, 20]
  | 5 => some [6, 7]
  | 6 => some [1, 3, 6, 9, 10]
  | 7 => some [1, 3, 6, 9, 29]
  | 8 => some [6, 7]
  | 9 => some [6, 7]
  | _ => none
def reg18 : Nat → Option (List Nat)
  | 0 => some [1, 2, 3, 6]
  | 1 => some [1, 2, 3, 6, 12]
  | 2 => some [6, 7]
  | 3 => some [1, 3, 6, 8, 9]
  | 4 => some [1, 3, 6, 8, 21]
  | 5 => some [6, 7]
  | 6 => some [6, 7]
  | _ => none
def reg19 : Nat → Option (List Nat)
  | 0 => some [1, 3, 5]
  | 1 => some [3, 5, 8]
  | 2 => some [3, 5, 8, 15]
  | 3 => some [6, 7]
  | 4 => some [3, 5, 9]
  | 5 => some [9]
  | 6 => some [9]
  | 7 => some [6, 7]
  | _ => none
def reg22 : Nat → Option (List Nat)
  | 0 => some [0, 1]
  | 1 => some [0, 1, 10]
  | 2 => some [4]
  | 3 => some [0, 1, 12, 13]
  | 4 => some [0, 1, 12, 13, 14]
  | 5 => some [0, 1, 5, 12, 13]
  | 6 => some [0, 1, 12, 13, 24]
  | 7 => some [4]
  | 8 => some [0, 1, 12, 13]
  | 9 => some [4]
  | _ => none
def loop22 : Nat → Option (List Nat)
  | 4 => some [0, 1, 12, 13]
  | _ => none
def reg23 : Nat → Option (List Nat)
  | 0 => some [2, 3]
  | 1 => some [2, 3, 5]
  | 2 => some [2, 3, 5, 13]
  | 3 => some [4]
  | 4 => some [2, 3, 6]
  | 5 => some [2, 3, 6, 21]
  | 6 => some [4]
  | 7 => some [4]
  | _ => none
def reg24 : Nat → Option (List Nat)
  | 0 => some [2, 3]
  | 1 => some [2, 3, 12]
  | 2 => some [4]
  | 3 => some [2, 3, 5]
  | 4 => some [2, 3, 5, 29]
  | 5 => some [2, 3, 5]
  | 6 => some [2, 3, 5, 6]
  | 7 => some [2, 3, 5, 6, 44]
  | 8 => some [4]
  | 9 => some [2, 3, 52]
  | 10 => some [4]
  | 11 => some [2, 3, 7]
  | 12 => some [2, 3, 7, 71]
  | 13 => some [2, 3, 7]
  | 14 => some [2, 3, 7, 84]
  | 15 => some [4]
  | 16 => some [4]
  | _ => none
def loop24 : Nat → Option (List Nat)
  | 4 => some [2, 3, 5]
  | 12 => some [2, 3, 7]
  | _ => none
def reg26 : Nat → Option (List Nat)
  | 0 => some [1, 3, 5, 6]
  | 1 => some [1, 3, 5, 6, 12]
  | 2 => some [6, 7]
  | 3 => some [3, 6, 8, 9]
  | 4 => some [3, 6, 8, 21]
  | 5 => some [6, 7]
  | 6 => some [6, 8, 25]
  | 7 => some [6, 7]
  | 8 => some [6, 7]
  | _ => none
def reg28 : Nat → Option (List Nat)
  | 0 => some [1, 2]
  | 1 => some [4]
  | _ => none
def reg29 : Nat → Option (List Nat)
  | 0 => some [1, 2]
  | 1 => some [4]
  | _ => none
def reg30 : Nat → Option (List Nat)
  | 0 => some [0]
  | 1 => some [0]
  | _ => none
def reg31 : Nat → Option (List Nat)
  | 0 => some [1, 3, 5]
  | 1 => some [1, 3, 5, 7]
  | 2 => some [1, 3, 5, 7, 12]
  | 3 => some [6]
  | 4 => some [18]
  | 5 => some [6]
  | 6 => some [6]
  | _ => none
def reg32 : Nat → Option (List Nat)
  | 0 => some [0, 1]
  | 1 => some [4]
  | _ => none
def reg33 : Nat → Option (List Nat)
  | 0 => some [0]
  | 1 => some [2]
  | _ => none
def reg34 : Nat → Option (List Nat)
  | 0 => some [3, 4, 5, 6]
  | 1 => some [6]
  | _ => none
def reg35 : Nat → Option (List Nat)
  | 0 => some [1]
  | 1 => some [1, 7]
  | 2 => some [2]
  | 3 => some [1, 4]
  | 4 => some [2]
  | _ => none
def reg36 : Nat → Option (List Nat)
  | 0 => some [1, 3, 5]
  | 1 => some [5, 7, 8]
  | 2 => some [6]
  | _ => none
def reg37 : Nat → Option (List Nat)
  | 0 => some [2, 3]
  | 1 => some [2, 3, 6]
  | 2 => some [2, 3, 6, 9, 10]
  | 3 => some [2, 3, 6, 9, 10, 11]
  | 4 => some [2, 3, 6, 9, 10]
  | 5 => some [2, 3, 6, 9, 10]
  | 6 => some [2, 3, 6, 20]
  | 7 => some [2, 3, 6, 29]
  | 8 => some [3, 6]
  | 9 => some [2, 3, 6, 35]
  | 10 => some [2, 3, 46]
  | 11 => some [4, 5]
  | 12 => some [3, 6]
  | 13 => some [2, 3, 6, 55]
  | 14 => some [2, 3, 6, 60, 61]
  | 15 => some [2, 3, 6, 60, 61, 62]
  | 16 => some [2, 3, 6, 60, 61]
  | 17 => some [2, 3, 6, 60, 61]
  | 18 => some [4, 5]
  | _ => none
def loop37 : Nat → Option (List Nat)
  | 3 => some [2, 3, 6, 9, 10]
  | 15 => some [2, 3, 6, 60, 61]
  | _ => none
def reg38 : Nat → Option (List Nat)
  | 0 => some [0]
  | 1 => some [2]
  | _ => none
def reg39 : Nat → Option (List Nat)
  | 0 => some [0, 3, 4]
  | 1 => some [0, 3, 4, 5]
  | 2 => some [0, 3, 4, 5, 18, 19, 20]
  | 3 => some [0, 3, 4, 5, 18, 19, 20, 21]
  | 4 => some [0, 3, 4, 5, 6, 7, 18, 19, 20]
  | 5 => some [0, 3, 4, 5, 6, 7, 8, 9, 18, 19, 20]
  | 6 => some [0, 3, 4, 5, 6, 7, 8, 9, 18, 19, 20, 33]
  | 7 => some [0, 3, 4, 5, 6, 7, 8, 9, 18, 19, 20]
  | 8 => some [0, 3, 4, 5, 6, 7, 8, 9, 18, 19, 20, 42]
  | 9 => some [0, 3, 4, 5, 6, 7, 8, 9, 18, 19, 20]
  | 10 => some [0, 3, 4, 5, 6, 7, 8, 18, 19, 20, 53]
  | 11 => some [0, 3, 4, 5, 6, 8, 18, 19, 20]
  | 12 => some [0, 3, 4, 5, 6, 8, 18, 19, 20, 69]
  | 13 => some [0, 3, 4, 5, 6, 8, 18, 19, 20]
  | 14 => some [0, 3, 4, 5, 6, 8, 18, 19, 20, 84]
  | 15 => some [0, 3, 4, 5, 18, 19, 20]
  | 16 => some [0, 3, 4, 5, 18, 19, 20]
  | 17 => some [4, 5, 99]
  | 18 => some [4, 5, 10]
  | 19 => some [4, 5, 10, 101, 102, 103]
  | 20 => some [4, 5, 10, 101, 102, 103, 104]
  | 21 => some [4, 5, 10, 12, 101, 102, 103]
  | 22 => some [4, 5, 10, 101, 102, 103]
  | 23 => some [4, 5, 10, 101, 102, 103]
  | 24 => some [4, 5, 10, 113, 114]
  | 25 => some [4, 5, 10, 113, 114, 115]
  | 26 => some [4, 5, 10, 13, 113, 114]
  | 27 => some [4, 5, 10, 113, 114]
  | 28 => some [4, 5, 10, 113, 114]
  | 29 => some [4]
  | _ => none
def loop39 : Nat → Option (List Nat)
  | 3 => some [0, 3, 4, 5, 18, 19, 20]
  | 6 => some [0, 3, 4, 5, 6, 7, 8, 9, 18, 19, 20]
  | 20 => some [4, 5, 10, 101, 102, 103]
  | 25 => some [4, 5, 10, 113, 114]
  | _ => none
def reg40 : Nat → Option (List Nat)
  | 0 => some [2, 3]
  | 1 => some [2, 3, 10]
  | 2 => some [2, 3, 10, 11]
  | 3 => some [2, 3, 10, 11]
  | 4 => some [4]
  | 5 => some [2, 3, 10, 17]
  | 6 => some [4]
  | 7 => some [2, 3, 41]
  | 8 => some [4]
  | 9 => some [2, 3, 5, 6]
  | 10 => some [2, 3, 5, 6, 64]
  | 11 => some [2, 3, 5, 6]
  | 12 => some [2, 3, 5, 6, 66, 67, 68]
  | 13 => some [2, 3, 5, 6, 66, 67, 68, 69]
  | 14 => some [2, 3, 5, 6, 7, 8, 66, 67, 68]
  | 15 => some [2, 3, 5, 6, 7, 8, 66, 67, 68, 74]
  | 16 => some [2, 3, 5, 6, 7, 8, 66, 67, 68]
  | 17 => some [2, 3, 5, 6, 7, 66, 67, 68]
  | 18 => some [2, 3, 5, 6, 7, 66, 67, 68, 87]
  | 19 => some [2, 3, 5, 6, 66, 67, 68]
  | 20 => some [2, 3, 5, 6, 66, 67, 68]
  | 21 => some [4]
  | _ => none
def loop40 : Nat → Option (List Nat)
  | 13 => some [2, 3, 5, 6, 66, 67, 68]
  | _ => none
def reg41 : Nat → Option (List Nat)
  | 0 => some [0]
  | 1 => some [0, 3]
  | 2 => some [0, 3, 10]
  | 3 => some [2]
  | 4 => some [2]
  | _ => none
def reg42 : Nat → Option (List Nat)
  | 0 => some [0, 2, 4]
  | 1 => some [2, 4, 8]
  | 2 => some [2, 4, 8, 9]
  | 3 => some [6]
  | 4 => some [2, 4, 8, 15]
  | 5 => some [6]
  | 6 => some [2, 4, 26]
  | 7 => some [6]
  | 8 => some [2, 4, 34, 35]
  | 9 => some [2, 4, 34, 35, 36]
  | 10 => some [2, 4, 7, 34, 35]
  | 11 => some [2, 4, 34, 35]
  | 12 => some [2, 4, 34, 35]
  | 13 => some [6]
  | _ => none
def loop42 : Nat → Option (List Nat)
  | 9 => some [2, 4, 34, 35]
  | _ => none
def reg43 : Nat → Option (List Nat)
  | 0 => some [1, 2]
  | 1 => some [1, 7]
  | 2 => some [4]
  | 3 => some [13]
  | 4 => some [4]
  | 5 => some [4]
  | _ => none
def reg44 : Nat → Option (List Nat)
  | 0 => some [1, 2, 4, 5]
  | 1 => some [1, 2, 4, 5]
  | 2 => some [2, 4, 5, 6]
  | 3 => some [4, 5, 6]
  | 4 => some [4, 5]
  | _ => none
def reg45 : Nat → Option (List Nat)
  | 0 => some [1, 3, 5, 6]
  | 1 => some [3, 5, 6, 8]
  | 2 => some [3, 5, 6, 17]
  | 3 => some [6, 7]
  | 4 => some [3, 6, 9]
  | 5 => some [6, 9, 25]
  | 6 => some [6, 7]
  | 7 => some [6, 7]
  | _ => none
def reg46 : Nat → Option (List Nat)
  | 0 => some [1, 2, 4]
  | 1 => some [2, 4, 6, 7]
  | 2 => some [2, 4, 6, 16]
  | 3 => some [4, 5]
  | 4 => some [2, 4, 8]
  | 5 => some [4, 8, 9]
  | 6 => some [4, 5]
  | _ => none
def reg47 : Nat → Option (List Nat)
  | 0 => some [3, 4, 5]
  | 1 => some [3, 4, 5, 6]
  | 2 => some [3, 4, 6]
  | 3 => some []
  | _ => none
def reg48 : Nat → Option (List Nat)
  | 0 => some []
  | _ => none
def reg49 : Nat → Option (List Nat)
  | 0 => some [0, 2]
  | 1 => some []
  | _ => none
def reg50 : Nat → Option (List Nat)
  | 0 => some [0]
  | 1 => some [0, 8]
  | 2 => some [2]
  | 3 => some [0, 3]
  | 4 => some [0, 3, 13]
  | 5 => some [0, 3]
  | 6 => some [0, 3, 25]
  | 7 => some [0, 3, 4]
  | 8 => some [0, 3, 4, 5]
  | 9 => some [0, 3, 4, 5, 32]
  | 10 => some [0, 3, 4, 5]
  | 11 => some [0, 3, 4, 5, 44]
  | 12 => some [0, 3, 4, 5]
  | 13 => some [0, 3, 4, 5]
  | 14 => some [0, 3]
  | 15 => some [2]
  | 16 => some [2]
  | _ => none
def loop50 : Nat → Option (List Nat)
  | 4 => some [0, 3]
  | 9 => some [0, 3, 4, 5]
  | _ => none
def reg52 : Nat → Option (List Nat)
  | 0 => some [0, 1]
  | 1 => some [0, 1, 5]
  | 2 => some [4]
  | 3 => some [9]
  | 4 => some [4]
  | 5 => some [4]
  | _ => none
def reg53 : Nat → Option (List Nat)
  | 0 => some [0, 1, 2]
  | 1 => some [6]
  | _ => none
def reg54 : Nat → Option (List Nat)
  | 0 => some [0, 1, 2]
  | 1 => some [6]
  | _ => none
def reg55 : Nat → Option (List Nat)
  | 0 => some [0, 1]
  | 1 => some [0, 1, 5]
  | 2 => some [4]
  | 3 => some [9]
  | 4 => some [4]
  | 5 => some [4]
  | _ => none
def reg56 : Nat → Option (List Nat)
  | 0 => some [1, 2]
  | 1 => some [1, 2]
  | 2 => some [1, 2, 5]
  | 3 => some [1, 2, 5, 16]
  | 4 => some [1, 2, 5]
  | 5 => some [1, 2, 5]
  | 6 => some [4]
  | _ => none
def loop56 : Nat → Option (List Nat)
  | 3 => some [1, 2, 5]
  | _ => none
def reg57 : Nat → Option (List Nat)
  | 0 => some [1, 3, 5, 6]
  | 1 => some [1, 3, 5, 6, 8, 9]
  | 2 => some [1, 3, 5, 6, 8, 36]
  | 3 => some [6, 7]
  | 4 => some [1, 3, 5, 6, 8, 10]
  | 5 => some [1, 3, 6, 8, 10, 45, 46, 47]
  | 6 => some [1, 3, 6, 8, 10, 45, 46, 47, 48]
  | 7 => some [1, 3, 6, 8, 10, 11, 12, 45, 46, 47]
  | 8 => some [1, 3, 6, 8, 10, 13, 14, 45, 46, 47]
  | 9 => some [1, 3, 6, 8, 10, 13, 45, 46, 47, 63]
  | 10 => some [6, 7]
  | 11 => some [1, 3, 6, 8, 10, 45, 46, 47]
  | 12 => some [1, 3, 6, 8, 10, 45, 46, 47]
  | 13 => some [3, 6, 10, 74]
  | 14 => some [6, 10]
  | 15 => some [6, 7]
  | _ => none
def loop57 : Nat → Option (List Nat)
  | 6 => some [1, 3, 6, 8, 10, 45, 46, 47]
  | _ => none
def reg58 : Nat → Option (List Nat)
  | 0 => some [2, 3]
  | 1 => some [2, 3, 17]
  | 2 => some [4]
  | 3 => some [3, 5]
  | 4 => some [5, 25, 26, 27]
  | 5 => some [5, 25, 26, 27, 28]
  | 6 => some [5, 7, 8, 25, 26, 27]
  | 7 => some [5, 25, 26, 27, 37]
  | 8 => some [4]
  | 9 => some [5, 25, 26, 27]
  | 10 => some [4]
  | _ => none
def loop58 : Nat → Option (List Nat)
  | 5 => some [5, 25, 26, 27]
  | _ => none
def reg59 : Nat → Option (List Nat)
  | 0 => some [1, 2]
  | 1 => some [1, 2, 8, 9, 10]
  | 2 => some [1, 2, 8, 9, 10, 11]
  | 3 => some [1, 2, 6, 8, 9, 10]
  | 4 => some [1, 2, 8, 9, 10, 17]
  | 5 => some [4]
  | 6 => some [1, 2, 8, 9, 10]
  | 7 => some [4]
  | _ => none
def loop59 : Nat → Option (List Nat)
  | 2 => some [1, 2, 8, 9, 10]
  | _ => none
def reg60 : Nat → Option (List Nat)
  | 0 => some [1, 2]
  | 1 => some [1, 2]
  | 2 => some [1, 2, 5]
  | 3 => some [1, 2, 5, 16]
  | 4 => some [1, 2, 5]
  | 5 => some [1, 2, 5]
  | 6 => some [4]
  | _ => none
def loop60 : Nat → Option (List Nat)
  | 3 => some [1, 2, 5]
  | _ => none
def reg61 : Nat → Option (List Nat)
  | 0 => some [0, 1, 2, 6]
  | 1 => some [6]
  | _ => none
def reg62 : Nat → Option (List Nat)
  | 0 => some [1, 3, 5]
  | 1 => some [3, 5, 7]
  | 2 => some [6]
  | _ => none
def reg63 : Nat → Option (List Nat)
  | 0 => some [0, 1]
  | 1 => some [0, 1, 7, 8]
  | 2 => some [0, 1, 7, 8, 9]
  | 3 => some [0, 1, 5, 7, 8]
  | 4 => some [0, 1, 5, 7, 8, 16]
  | 5 => some [4]
  | 6 => some [0, 1, 7, 8]
  | 7 => some [4]
  | _ => none
def loop63 : Nat → Option (List Nat)
  | 2 => some [0, 1, 7, 8]
  | _ => none
def reg64 : Nat → Option (List Nat)
  | 0 => some [2, 3, 4, 6]
  | 1 => some [2, 3, 4, 6, 11]
  | 2 => some [2, 3, 4, 6, 11, 12]
  | 3 => some [6]
  | 4 => some [2, 3, 4, 6, 11, 18]
  | 5 => some [6]
  | 6 => some [2, 3, 4, 6, 11, 23]
  | 7 => some [6]
  | 8 => some [2, 3, 4, 6, 47]
  | 9 => some [6]
  | 10 => some [2, 3, 4, 6, 7]
  | 11 => some [2, 3, 4, 6, 7, 66, 67, 68]
  | 12 => some [2, 3, 4, 6, 7, 66, 67, 68, 69]
  | 13 => some [2, 3, 4, 6, 7, 9, 66, 67, 68]
  | 14 => some [2, 3, 4, 6, 7, 66, 67, 68]
  | 15 => some [2, 3, 4, 6, 7, 66, 67, 68]
  | 16 => some [3, 4, 6, 7, 87]
  | 17 => some [6]
  | 18 => some [3, 6, 7]
  | 19 => some [6]
  | _ => none
def loop64 : Nat → Option (List Nat)
  | 12 => some [2, 3, 4, 6, 7, 66, 67, 68]
  | _ => none
def reg65 : Nat → Option (List Nat)
  | 0 => some [0, 1, 3]
  | 1 => some [3]
  | _ => none
def reg66 : Nat → Option (List Nat)
  | 0 => some [1, 3]
  | 1 => some [1, 2, 3]
  | 2 => some [2, 3, 9, 10, 11]
  | 3 => some [2, 3, 9, 10, 11, 12]
  | 4 => some [2, 3, 5, 9, 10, 11]
  | 5 => some [2, 3, 6, 7, 9, 10, 11]
  | 6 => some [2, 3, 9, 10, 11]
  | 7 => some [2, 3, 9, 10, 11]
  | 8 => some [2, 3]
  | _ => none
def loop66 : Nat → Option (List Nat)
  | 3 => some [2, 3, 9, 10, 11]
  | _ => none
def reg67 : Nat → Option (List Nat)
  | 0 => some [1]
  | 1 => some [1, 3]
  | 2 => some [1, 30]
  | 3 => some [2]
  | 4 => some [32, 33, 34]
  | 5 => some [32, 33, 34, 35]
  | 6 => some [5, 32, 33, 34]
  | 7 => some [32, 33, 34, 40]
  | 8 => some [2]
  | 9 => some [32, 33, 34]
  | 10 => some [2]
  | _ => none
def loop67 : Nat → Option (List Nat)
  | 5 => some [32, 33, 34]
  | _ => none
def reg68 : Nat → Option (List Nat)
  | 0 => some [0]
  | 1 => some [2]
  | _ => none
def reg69 : Nat → Option (List Nat)
  | 0 => some [0, 1]
  | 1 => some [0, 1, 6]
  | 2 => some [0, 1]
  | 3 => some [4]
  | _ => none
def loop69 : Nat → Option (List Nat)
  | 1 => some [0, 1]
  | _ => none
def reg70 : Nat → Option (List Nat)
  | 0 => some [0]
  | 1 => some [2]
  | _ => none
def reg71 : Nat → Option (List Nat)
  | 0 => some [0]
  | 1 => some [0, 3]
  | 2 => some [3, 6, 7, 8]
  | 3 => some [3, 6, 7, 8, 9]
  | 4 => some [3, 4, 5, 6, 7, 8]
  | 5 => some [3, 5, 6, 7, 8, 14]
  | 6 => some [3, 5, 6, 7, 8]
  | 7 => some [3, 6, 7, 8]
  | 8 => some [3, 6, 7, 8]
  | 9 => some [2]
  | _ => none
def loop71 : Nat → Option (List Nat)
  | 3 => some [3, 6, 7, 8]
  | _ => none
def reg72 : Nat → Option (List Nat)
  | 0 => some [1]
  | 1 => some [1, 3]
  | 2 => some [2]
  | _ => none
def reg73 : Nat → Option (List Nat)
  | 0 => some [0, 1, 2]
  | 1 => some [0, 1, 2, 7]
  | 2 => some [0, 1, 2, 4]
  | 3 => some [0, 1, 2, 14]
  | 4 => some [0, 1]
  | 5 => some []
  | _ => none
def reg74 : Nat → Option (List Nat)
  | 0 => some [0, 3, 4]
  | 1 => some [0, 3, 4, 10]
  | 2 => some [0, 3, 4, 10, 11]
  | 3 => some [0, 3, 4, 10, 11]
  | 4 => some [4]
  | 5 => some [0, 3, 4, 10, 17]
  | 6 => some [0, 3, 4]
  | 7 => some [0, 3, 4, 5]
  | 8 => some [0, 3, 4, 5]
  | 9 => some [0, 4, 5, 6]
  | 10 => some [4, 5, 6]
  | 11 => some [4]
  | 12 => some [0, 3, 4, 10, 41]
  | 13 => some [0, 3, 4, 7]
  | 14 => some [0, 3, 4, 7, 45]
  | 15 => some [0, 3, 4]
  | 16 => some [0, 3, 4, 7]
  | 17 => some [4]
  | 18 => some [0, 3, 4, 58]
  | 19 => some [0, 3, 4]
  | 20 => some [3, 4, 8]
  | 21 => some [4, 8, 73]
  | 22 => some [4, 8]
  | 23 => some [4]
  | 24 => some [0, 3, 4]
  | 25 => some [4]
  | _ => none
def reg75 : Nat → Option (List Nat)
  | 0 => some [0]
  | 1 => some [0]
  | 2 => some [0, 15]
  | 3 => some [2]
  | 4 => some [2]
  | _ => none
def reg76 : Nat → Option (List Nat)
  | 0 => some [0, 4, 5]
  | 1 => some [0, 4, 5]
  | 2 => some [0, 4, 5, 21]
  | 3 => some [6]
  | 4 => some [0, 4, 5, 45]
  | 5 => some [6]
  | 6 => some [0, 4, 5, 7]
  | 7 => some [0, 4, 5, 7, 50]
  | 8 => some [0, 4, 5, 55]
  | 9 => some [6]
  | 10 => some [0, 4, 5, 7, 50, 56]
  | 11 => some [6]
  | 12 => some [0, 4, 5, 7, 50, 74]
  | 13 => some [6]
  | 14 => some [0, 4, 5, 7, 50, 90]
  | 15 => some [6]
  | 16 => some [0, 4, 5, 7, 50, 118]
  | 17 => some [6]
  | 18 => some [0, 4, 5, 7, 146]
  | 19 => some [0, 4, 5, 151]
  | 20 => some [6]
  | 21 => some [0, 4, 153, 154, 155]
  | 22 => some [0, 4, 153, 154, 155, 156]
  | 23 => some [0, 4, 9, 153, 154, 155]
  | 24 => some [0, 4, 153, 154, 155, 166]
  | 25 => some [6]
  | 26 => some [0, 4, 153, 154, 155]
  | 27 => some [6]
  | _ => none
def loop76 : Nat → Option (List Nat)
  | 22 => some [0, 4, 153, 154, 155]
  | _ => none
def reg77 : Nat → Option (List Nat)
  | 0 => some [0, 2]
  | 1 => some [2]
  | _ => none
def reg78 : Nat → Option (List Nat)
  | 0 => some [2, 3]
  | 1 => some [2, 3, 6]
  | 2 => some [2, 3, 6, 7]
  | 3 => some [2, 3, 6, 7]
  | 4 => some [4]
  | 5 => some [2, 3, 6, 10]
  | 6 => some [4]
  | 7 => some [2, 3, 32]
  | 8 => some [4]
  | 9 => some [4]
  | _ => none
def reg79 : Nat → Option (List Nat)
  | 0 => some [0, 1]
  | 1 => some [0, 1, 6]
  | 2 => some [0, 1, 6, 7]
  | 3 => some [0, 1, 6, 7, 12]
  | 4 => some [0, 1, 6, 7, 8]
  | 5 => some [0, 1, 6, 7, 8, 15]
  | 6 => some [0, 1, 6, 7]
  | 7 => some [0, 1, 6, 7, 8, 22]
  | 8 => some [0, 1, 6, 7, 8, 36]
  | 9 => some [0, 1, 6, 7, 8]
  | 10 => some [0, 1, 6, 7, 8, 39]
  | 11 => some [4, 5]
  | 12 => some [0, 1, 6, 8]
  | 13 => some [0, 1, 6, 7]
  | 14 => some [4, 5]
  | _ => none
def loop79 : Nat → Option (List Nat)
  | 3 => some [0, 1, 6, 7]
  | 8 => some [0, 1, 6, 7, 8]
  | _ => none
def reg80 : Nat → Option (List Nat)
  | 0 => some [1, 2, 4]
  | 1 => some [1, 2, 4, 5]
  | 2 => some [1, 2, 4, 5, 10]
  | 3 => some [4, 5]
  | 4 => some [1, 2, 4, 5, 10, 14]
  | 5 => some [1, 2, 4, 5, 10, 14]
  | 6 => some [4, 5]
  | 7 => some [1, 2, 4, 5, 10, 20]
  | 8 => some [1, 2, 4, 5]
  | 9 => some [1, 2, 4, 5, 6]
  | 10 => some [1, 2, 4, 5, 6]
  | 11 => some [1, 4, 5]
  | 12 => some [4, 5]
  | 13 => some [1, 2, 4, 5, 10, 43]
  | 14 => some [1, 2, 4, 5, 46]
  | 15 => some [1, 2, 4, 5]
  | 16 => some [1, 2, 4, 5]
  | 17 => some [1, 2, 4, 5, 59]
  | 18 => some [4, 5]
  | 19 => some [1, 2, 4, 5, 70]
  | 20 => some [1, 2, 4, 5]
  | 21 => some [1, 2, 4, 5, 7]
  | 22 => some [1, 2, 4, 5, 7, 84]
  | 23 => some [1, 2, 4, 5, 7]
  | 24 => some [1, 2, 4, 5, 7, 88]
  | 25 => some [1, 2, 4, 5, 7]
  | 26 => some [1, 2, 4, 5, 7]
  | 27 => some [4, 5]
  | 28 => some [4]
  | _ => none
def loop80 : Nat → Option (List Nat)
  | 22 => some [1, 2, 4, 5, 7]
  | _ => none
def reg81 : Nat → Option (List Nat)
  | 0 => some [2, 3, 4, 5]
  | 1 => some [2, 3, 4, 5, 9]
  | 2 => some [3, 4, 11, 12, 13]
  | 3 => some [3, 4, 11, 12, 13, 14]
  | 4 => some [3, 4, 7, 11, 12, 13]
  | 5 => some [3, 4, 11, 12, 13]
  | 6 => some [3, 4, 11, 12, 13]
  | 7 => some [2, 3, 4, 5, 9, 25]
  | 8 => some []
  | 9 => some [3, 4, 5, 9, 31]
  | 10 => some [3, 4, 5, 9, 33]
  | 11 => some [3, 4, 5]
  | 12 => some []
  | 13 => some [3, 4, 5, 55]
  | 14 => some []
  | _ => none
def loop81 : Nat → Option (List Nat)
  | 3 => some [3, 4, 11, 12, 13]
  | _ => none
def reg82 : Nat → Option (List Nat)
  | 0 => some [0, 1, 2, 3, 8]
  | 1 => some [0, 1, 2, 3, 8, 9]
  | 2 => some [0, 1, 2, 3, 8, 9, 10]
  | 3 => some [0, 1, 2, 3, 8, 9, 10, 23]
  | 4 => some []
  | 5 => some [0, 1, 2, 3, 8, 9, 10, 29]
  | 6 => some []
  | 7 => some [0, 1, 2, 3, 8, 9, 10, 35]
  | 8 => some [0, 1, 2, 3, 8, 9, 10]
  | 9 => some [0, 1, 2, 3, 8, 9, 10]
  | 10 => some [0, 1, 2, 3, 8, 9, 10, 11, 12]
  | 11 => some [0, 1, 2, 3, 8, 9, 10, 11, 12, 50]
  | 12 => some [0, 1, 2, 3, 8, 9, 10, 11]
  | 13 => some [0, 1, 2, 3, 8, 9, 10, 11]
  | 14 => some [0, 1, 2, 3, 8, 9, 10, 11, 12]
  | 15 => some [0, 1, 2, 3, 8, 9, 10, 11, 68]
  | 16 => some [0, 1, 2, 3, 8, 9, 10, 11, 72]
  | 17 => some [0, 1, 2, 3, 8, 9, 10, 11, 87]
  | 18 => some [0, 2, 3, 8, 9, 13]
  | 19 => some [0, 1, 2, 3, 8, 9]
  | 20 => some [0, 1, 2, 3, 10, 14, 15]
  | 21 => some [0, 1, 2, 3, 9, 10, 14]
  | 22 => some [0, 1, 2, 3, 9, 10, 14, 16, 17]
  | 23 => some [0, 1, 2, 3, 9, 14, 16, 17, 18]
  | 24 => some [0, 1, 2, 3, 9, 14, 16, 17, 18, 113]
  | 25 => some [0, 1, 2, 3, 8, 9, 14]
  | 26 => some [0, 2, 3, 8, 9, 14]
  | 27 => some [0, 1, 2, 3, 8, 9]
  | 28 => some [0, 1, 2, 3, 8, 9, 14]
  | 29 => some [0, 1, 3, 8, 9, 14]
  | 30 => some [0, 1, 2, 3, 8, 9]
  | _ => none
def loop82 : Nat → Option (List Nat)
  | 2 => some [0, 1, 2, 3, 8, 9]
  | _ => none
def reg83 : Nat → Option (List Nat)
  | 0 => some [0]
  | 1 => some [2]
  | 2 => some [2]
  | _ => none
def reg84 : Nat → Option (List Nat)
  | 0 => some [0, 1, 2]
  | 1 => some [0, 1, 2, 11, 12, 13]
  | 2 => some [0, 1, 2, 11, 12, 13, 14]
  | 3 => some [0, 1, 2, 7, 8, 11, 12, 13]
  | 4 => some [0, 1, 2, 7, 8, 11, 12, 13, 21]
  | 5 => some [6]
  | 6 => some [0, 1, 2, 8, 9, 11, 12, 13]
  | 7 => some [0, 1, 2, 10, 11, 12, 13]
  | 8 => some [0, 1, 2, 10, 11, 12, 13, 31]
  | 9 => some [6]
  | 10 => some [0, 1, 2, 11, 12, 13]
  | 11 => some [38]
  | 12 => some [6]
  | 13 => some [6]
  | _ => none
def loop84 : Nat → Option (List Nat)
  | 2 => some [0, 1, 2, 11, 12, 13]
  | _ => none
def reg85 : Nat → Option (List Nat)
  | 0 => some [0, 1, 2]
  | 1 => some [0, 1, 2, 11, 12, 13]
  | 2 => some [0, 1, 2, 11, 12, 13, 14]
  | 3 => some [0, 1, 2, 7, 8, 11, 12, 13]
  | 4 => some [0, 1, 2, 7, 8, 11, 12, 13, 21]
  | 5 => some [6]
  | 6 => some [0, 1, 2, 8, 9, 11, 12, 13]
  | 7 => some [0, 1, 2, 10, 11, 12, 13]
  | 8 => some [0, 1, 2, 10, 11, 12, 13, 31]
  | 9 => some [6]
  | 10 => some [0, 1, 2, 11, 12, 13]
  | 11 => some [38]
  | 12 => some [6]
  | 13 => some [6]
  | _ => none
def loop85 : Nat → Option (List Nat)
  | 2 => some [0, 1, 2, 11, 12, 13]
  | _ => none
def reg86 : Nat → Option (List Nat)
  | 0 => some [1, 3, 5]
  | 1 => some [1, 3, 5, 7]
  | 2 => some [1, 3, 5, 7, 9]
  | 3 => some [1, 3, 5, 7, 9, 10]
  | 4 => some [5, 7]
  | 5 => some [3, 5, 7, 9, 14]
  | 6 => some [5, 7]
  | 7 => some [5, 7, 19]
  | 8 => some [5, 7]
  | 9 => some [6]
  | _ => none
def reg87 : Nat → Option (List Nat)
  | 0 => some [0, 3]
  | 1 => some [0, 3, 10]
  | 2 => some [4]
  | 3 => some [0, 3, 5]
  | 4 => some [0, 3, 5, 16, 17, 18]
  | 5 => some [0, 3, 5, 16, 17, 18, 19]
  | 6 => some [0, 3, 5, 7, 16, 17, 18]
  | 7 => some [0, 3, 5, 7, 16, 17, 18, 29]
  | 8 => some [4]
  | 9 => some [0, 3, 5, 16, 17, 18]
  | 10 => some [0, 3, 5, 16, 17, 18]
  | 11 => some [4]
  | _ => none
def loop87 : Nat → Option (List Nat)
  | 5 => some [0, 3, 5, 16, 17, 18]
  | _ => none
def reg88 : Nat → Option (List Nat)
  | 0 => some [2, 3, 4]
  | 1 => some [2, 3, 4, 5]
  | 2 => some [2, 3, 4, 5, 16, 17, 18]
  | 3 => some [2, 3, 4, 5, 16, 17, 18, 19]
  | 4 => some [2, 3, 4, 5, 6, 7, 16, 17, 18]
  | 5 => some [2, 3, 4, 5, 6, 7, 8, 16, 17, 18]
  | 6 => some [2, 3, 4, 5, 6, 7, 8, 16, 17, 18, 25]
  | 7 => some [2, 3, 4, 5, 7, 8, 16, 17, 18]
  | 8 => some [2, 3, 4, 5, 16, 17, 18]
  | 9 => some [2, 3, 4, 5, 16, 17, 18]
  | 10 => some [2, 4, 5]
  | 11 => some [2, 4, 5, 9]
  | 12 => some [2, 4, 9, 40, 41, 42]
  | 13 => some [2, 4, 9, 40, 41, 42, 43]
  | 14 => some [2, 4, 9, 10, 11, 40, 41, 42]
  | 15 => some [2, 4, 9, 10, 11, 12, 40, 41, 42]
  | 16 => some [2, 4, 9, 11, 12, 40, 41, 42, 62]
  | 17 => some [2, 4, 9, 11, 12, 40, 41, 42, 65]
  | 18 => some [2, 4, 9, 40, 41, 42]
  | 19 => some [2, 4, 9, 11, 40, 41, 42]
  | 20 => some [2, 4, 9, 11, 40, 41, 42, 84]
  | 21 => some [2, 4, 9, 40, 41, 42]
  | 22 => some [2, 4, 9, 40, 41, 42]
  | 23 => some [4, 9, 95]
  | 24 => some [4, 9, 13]
  | 25 => some [4, 9, 13, 101, 102]
  | 26 => some [4, 9, 13, 101, 102, 103]
  | 27 => some [4, 9, 13, 14, 101, 102]
  | 28 => some [4, 9, 13, 101, 102]
  | 29 => some [4, 9, 13, 101, 102]
  | 30 => some [4]
  | _ => none
def loop88 : Nat → Option (List Nat)
  | 3 => some [2, 3, 4, 5, 16, 17, 18]
  | 13 => some [2, 4, 9, 40, 41, 42]
  | 26 => some [4, 9, 13, 101, 102]
  | _ => none
def reg89 : Nat → Option (List Nat)
  | 0 => some [0]
  | 1 => some [3]
  | 2 => some [3, 4]
  | 3 => some [2]
  | 4 => some [6]
  | 5 => some [2]
  | 6 => some [2]
  | _ => none
def reg90 : Nat → Option (List Nat)
  | 0 => some [0]
  | 1 => some [3]
  | 2 => some [3, 4]
  | 3 => some [3, 4]
  | 4 => some [2]
  | 5 => some [3, 7]
  | 6 => some [3, 7]
  | 7 => some [3, 7]
  | 8 => some [3, 7]
  | 9 => some [2]
  | 10 => some [3, 12]
  | 11 => some [12]
  | 12 => some [2]
  | 13 => some [2]
  | _ => none
def reg91 : Nat → Option (List Nat)
  | 0 => some [0]
  | 1 => some [2]
  | _ => none
def reg92 : Nat → Option (List Nat)
  | 0 => some [1, 2, 3]
  | 1 => some [1, 2, 3]
  | 2 => some [1, 2, 3, 43]
  | 3 => some [6]
  | 4 => some [1, 2, 3, 7]
  | 5 => some [1, 2, 3, 59]
  | 6 => some [6]
  | 7 => some [1, 2, 61, 62, 63]
  | 8 => some [1, 2, 61, 62, 63, 64]
  | 9 => some [1, 2, 9, 61, 62, 63]
  | 10 => some [1, 2, 61, 62, 63, 72]
  | 11 => some [6]
  | 12 => some [1, 2, 61, 62, 63]
  | 13 => some [6]
  | _ => none
def loop92 : Nat → Option (List Nat)
  | 8 => some [1, 2, 61, 62, 63]
  | _ => none
def reg93 : Nat → Option (List Nat)
  | 0 => some [0]
  | 1 => some [0]
  | 2 => some [0, 3]
  | 3 => some [0, 3, 32]
  | 4 => some [0, 3]
  | 5 => some [0, 3, 48]
  | 6 => some [0, 3]
  | 7 => some [0, 3, 4, 5]
  | 8 => some [4, 5]
  | 9 => some [4, 71]
  | 10 => some [2]
  | 11 => some [2]
  | _ => none
def loop93 : Nat → Option (List Nat)
  | 3 => some [0, 3]
  | _ => none
def reg94 : Nat → Option (List Nat)
  | 0 => some [7]
  | 1 => some []
  | _ => none
def reg95 : Nat → Option (List Nat)
  | 0 => some [0, 1]
  | 1 => some [0, 8]
  | 2 => some [4]
  | 3 => some []
  | 4 => some [4]
  | _ => none
def reg96 : Nat → Option (List Nat)
  | 0 => some [0, 2, 3, 5, 8]
  | 1 => some [0, 2, 3, 5, 8, 9]
  | 2 => some [0, 2, 3, 5, 8, 9, 13]
  | 3 => some [0, 2, 3, 5, 8, 9, 17]
  | 4 => some [0, 2, 3, 5, 8, 9]
  | 5 => some [0, 2, 3, 5, 8, 9]
  | 6 => some [0, 2, 3, 5, 8, 9, 28]
  | 7 => some [0, 2, 3, 5, 8, 9]
  | 8 => some [0, 2, 3, 5, 8, 9]
  | 9 => some [8]
  | _ => none
def loop96 : Nat → Option (List Nat)
  | 2 => some [0, 2, 3, 5, 8, 9]
  | _ => none
def reg97 : Nat → Option (List Nat)
  | 0 => some [0, 1]
  | 1 => some [0, 1, 12]
  | 2 => some [4]
  | 3 => some [0, 1, 21]
  | 4 => some [4]
  | 5 => some [0, 1, 5, 6]
  | 6 => some [0, 1, 5, 31]
  | 7 => some [4]
  | 8 => some [4]
  | _ => none
def reg98 : Nat → Option (List Nat)
  | 0 => some [0, 4, 5]
  | 1 => some [0, 4, 5, 36]
  | 2 => some [6]
  | 3 => some [4, 5, 40]
  | 4 => some [6]
  | 5 => some [5, 55]
  | 6 => some [6]
  | 7 => some [5, 7]
  | 8 => some [5, 7, 60]
  | 9 => some [5, 7]
  | 10 => some [5, 7, 75]
  | 11 => some [6]
  | 12 => some [6]
  | _ => none
def loop98 : Nat → Option (List Nat)
  | 8 => some [5, 7]
  | _ => none
def reg99 : Nat → Option (List Nat)
  | 0 => some [0, 1]
  | 1 => some [4]
  | _ => none
def reg100 : Nat → Option (List Nat)
  | 0 => some [1, 2]
  | 1 => some [3]
  | _ => none
def reg101 : Nat → Option (List Nat)
  | 0 => some [0]
  | 1 => some [2]
  | _ => none
def reg102 : Nat → Option (List Nat)
  | 0 => some [0, 1]
  | 1 => some [0, 1, 5]
  | 2 => some [0, 1, 5, 9]
  | 3 => some [0, 1, 5]
  | 4 => some [0, 1, 5, 16]
  | 5 => some [4]
  | 6 => some [4]
  | _ => none
def loop102 : Nat → Option (List Nat)
  | 2 => some [0, 1, 5]
  | _ => none
def reg103 : Nat → Option (List Nat)
  | 0 => some [0]
  | 1 => some [0, 3]
  | 2 => some [3]
  | 3 => some [2]
  | _ => none
def reg104 : Nat → Option (List Nat)
  | 0 => some [0, 7]
  | 1 => some []
  | 2 => some []
  | _ => none
def reg105 : Nat → Option (List Nat)
  | 0 => some [0, 1]
  | 1 => some [4]
  | _ => none
def reg106 : Nat → Option (List Nat)
  | 0 => some [1, 2, 3]
  | 1 => some [1, 2, 3]
  | 2 => some [1, 2, 3, 10]
  | 3 => some []
  | 4 => some [1, 2, 3, 6]
  | 5 => some [1, 2, 3, 20]
  | 6 => some [1, 2, 3]
  | 7 => some [1, 2, 3, 39]
  | 8 => some [1, 2, 3]
  | 9 => some [1, 2, 3]
  | 10 => some [1, 2, 3, 6]
  | 11 => some [1, 2, 3, 6, 55]
  | 12 => some [1, 2, 3, 6]
  | 13 => some []
  | _ => none
def loop106 : Nat → Option (List Nat)
  | 5 => some [1, 2, 3, 6]
  | _ => none
def reg107 : Nat → Option (List Nat)
  | 0 => some [0, 1, 2, 6]
  | 1 => some [0, 1, 2, 6, 12]
  | 2 => some [0, 1, 2, 6]
  | 3 => some [0, 1, 2, 6, 7]
  | 4 => some [0, 1, 2, 6, 7, 30]
  | 5 => some [0, 1, 2, 6, 7]
  | 6 => some [0, 1, 2, 6, 7]
  | _ => none
def loop107 : Nat → Option (List Nat)
  | 1 => some [0, 1, 2, 6]
  | 4 => some [0, 1, 2, 6, 7]
  | _ => none
def reg108 : Nat → Option (List Nat)
  | 0 => some [0, 1, 2, 6]
  | 1 => some [0, 1, 2, 6, 7]
  | 2 => some [0, 6, 7, 8]
  | 3 => some [0, 6, 7, 8, 9]
  | 4 => some [0, 6, 7, 8, 9, 19]
  | 5 => some [0, 6, 7, 8, 9]
  | 6 => some [0, 6, 7, 8, 9]
  | 7 => some [0, 6, 7, 10]
  | 8 => some [0, 6, 7, 10, 30]
  | 9 => some [0, 6, 7, 10]
  | 10 => some [0, 6, 7, 10]
  | 11 => some [0, 6, 7, 10]
  | _ => none
def loop108 : Nat → Option (List Nat)
  | 4 => some [0, 6, 7, 8, 9]
  | 8 => some [0, 6, 7, 10]
  | _ => none
def reg109 : Nat → Option (List Nat)
  | 0 => some [0, 1, 6]
  | 1 => some [0, 1, 6, 15]
  | 2 => some [0, 1, 6, 7]
  | 3 => some [0, 1, 6, 7, 8]
  | 4 => some [0, 1, 6, 7, 8, 9]
  | 5 => some [0, 1, 6, 7, 8, 9, 33]
  | 6 => some [0, 1, 6, 7, 8, 9]
  | 7 => some [0, 1, 6, 7, 8, 9, 10]
  | 8 => some [0, 1, 6, 7, 8, 9, 10, 43]
  | 9 => some [0, 1, 6, 7, 8, 9, 10]
  | 10 => some [0, 1, 6, 7, 8, 9]
  | _ => none
def loop109 : Nat → Option (List Nat)
  | 5 => some [0, 1, 6, 7, 8, 9]
  | _ => none
def reg110 : Nat → Option (List Nat)
  | 0 => some [0, 1, 2]
  | 1 => some [0, 1, 8]
  | 2 => some [0, 1, 8, 9]
  | 3 => some [0, 1, 8, 9, 10]
  | 4 => some [0, 1, 8, 9, 10, 11]
  | 5 => some [0, 8, 9, 10, 11, 12]
  | 6 => some [0, 8, 9, 10, 11, 12, 32]
  | 7 => some [0, 9, 10, 11, 12, 34]
  | 8 => some [0, 9, 10, 11, 12]
  | 9 => some [0, 9, 10, 11, 12]
  | 10 => some [0, 9, 10, 11, 12]
  | 11 => some [9, 11]
  | 12 => some [11, 49]
  | 13 => some [6, 7]
  | 14 => some [11, 49, 51]
  | 15 => some [6, 7]
  | 16 => some [11, 54]
  | 17 => some [6, 7]
  | _ => none
def reg111 : Nat → Option (List Nat)
  | 0 => some [0, 2, 6]
  | 1 => some [0, 6, 7]
  | 2 => some [0, 6, 7, 13]
  | 3 => some [0, 6, 7]
  | 4 => some [0, 6, 7]
  | 5 => some [0, 6, 7]
  | _ => none
def loop111 : Nat → Option (List Nat)
  | 2 => some [0, 6, 7]
  | _ => none
def reg112 : Nat → Option (List Nat)
  | 0 => some [0, 1, 2]
  | 1 => some [0, 1, 2, 7]
  | 2 => some [0, 1, 2, 7, 8]
  | 3 => some [0, 1, 2, 7, 8, 14]
  | 4 => some [0, 1, 2, 7, 8]
  | 5 => some [0, 1, 2, 7, 8, 32]
  | 6 => some [0, 1, 2, 7, 8]
  | 7 => some [0, 1, 2, 7, 8, 37]
  | 8 => some [6]
  | 9 => some [0, 1, 2, 7, 8, 41]
  | 10 => some [6]
  | 11 => some [0, 1, 2, 7, 8]
  | 12 => some [0, 1, 2, 7, 8, 61]
  | 13 => some [0, 1, 2, 7, 8, 9]
  | 14 => some [0, 1, 2, 7, 8, 9, 65]
  | 15 => some [0, 1, 2, 7, 8, 9]
  | 16 => some [0, 1, 2, 7, 8, 9, 78]
  | 17 => some [0, 1, 2, 7, 8, 9]
  | 18 => some [0, 1, 2, 7, 8, 98]
  | 19 => some [0, 1, 2, 7, 8, 10]
  | 20 => some [0, 1, 2, 7, 8, 10, 103]
  | 21 => some [0, 1, 2, 7, 8, 10]
  | 22 => some [0, 1, 2, 7, 8, 10, 116]
  | 23 => some [0, 1, 2, 7, 8, 10]
  | 24 => some [6]
  | _ => none
def loop112 : Nat → Option (List Nat)
  | 3 => some [0, 1, 2, 7, 8]
  | 5 => some [0, 1, 2, 7, 8]
  | 14 => some [0, 1, 2, 7, 8, 9]
  | 20 => some [0, 1, 2, 7, 8, 10]
  | _ => none
def reg113 : Nat → Option (List Nat)
  | 0 => some [0, 1]
  | 1 => some [4]
  | _ => none
def reg114 : Nat → Option (List Nat)
  | 0 => some [0, 1, 2, 3]
  | 1 => some [0, 1, 2]
  | 2 => some [0, 1, 9, 10]
  | 3 => some [0, 1, 9, 10, 43]
  | 4 => some [0, 1, 9, 10]
  | 5 => some [0, 1, 9, 10, 59]
  | 6 => some [0, 1, 9, 10]
  | 7 => some [0, 1, 9, 10, 64]
  | 8 => some [0, 1, 9, 10]
  | 9 => some [0, 1, 9, 10]
  | 10 => some [0, 1, 9, 10]
  | 11 => some [8]
  | _ => none
def loop114 : Nat → Option (List Nat)
  | 0 => some [0, 1, 9, 10]
  | 3 => some [0, 1, 9, 10]
  | 5 => some [0, 1, 9, 10]
  | _ => none
def reg115 : Nat → Option (List Nat)
  | 0 => some [0, 1, 2, 3]
  | 1 => some [0, 1, 2]
  | 2 => some [0, 1, 10, 11]
  | 3 => some [0, 1, 10, 11, 43]
  | 4 => some [0, 1, 10, 11]
  | 5 => some [0, 1, 10, 11, 60]
  | 6 => some [0, 1, 10, 11]
  | 7 => some [0, 1, 10, 11, 65]
  | 8 => some [11]
  | 9 => some [8, 9]
  | 10 => some [0, 1, 10, 11]
  | 11 => some [0, 1, 10, 11]
  | 12 => some [0, 1, 10, 11]
  | 13 => some [0, 1, 10, 11, 112]
  | 14 => some [0, 1, 10, 11]
  | 15 => some [0, 1, 10, 11, 129]
  | 16 => some [0, 1, 10, 11]
  | 17 => some [0, 1, 10, 11, 134]
  | 18 => some [0, 1, 10, 11]
  | 19 => some [0, 1, 10, 11]
  | 20 => some [0, 1, 10, 11]
  | 21 => some [11]
  | 22 => some [8, 9]
  | _ => none
def loop115 : Nat → Option (List Nat)
  | 0 => some [0, 1, 10, 11]
  | 3 => some [0, 1, 10, 11]
  | 5 => some [0, 1, 10, 11]
  | 13 => some [0, 1, 10, 11]
  | 15 => some [0, 1, 10, 11]
  | _ => none
def reg116 : Nat → Option (List Nat)
  | 0 => some [0, 2]
  | 1 => some [0, 2, 4]
  | 2 => some [0]
  | 3 => some [0, 2]
  | 4 => some [0, 2, 8]
  | 5 => some [0, 2]
  | 6 => some [0, 2]
  | 7 => some [2]
  | _ => none
def reg117 : Nat → Option (List Nat)
  | 0 => some [0, 2]
  | 1 => some [0, 2, 4]
  | 2 => some [0]
  | 3 => some [0, 2]
  | 4 => some [0, 2, 8]
  | 5 => some [0, 2]
  | 6 => some [0, 2]
  | 7 => some [0, 2, 14]
  | 8 => some [0, 2]
  | 9 => some [0, 2]
  | 10 => some [2]
  | _ => none
def reg118 : Nat → Option (List Nat)
  | 0 => some [0, 1, 4]
  | 1 => some []
  | _ => none
def reg119 : Nat → Option (List Nat)
  | 0 => some [2, 3]
  | 1 => some [4]
  | _ => none
def reg120 : Nat → Option (List Nat)
  | 0 => some [2, 3]
  | 1 => some [4]
  | _ => none
def reg121 : Nat → Option (List Nat)
  | 0 => some [0]
  | 1 => some [0, 3]
  | 2 => some [3, 6, 7, 8]
  | 3 => some [3, 6, 7, 8, 9]
  | 4 => some [3, 5, 6, 7, 8]
  | 5 => some [3, 5, 6, 7, 8, 13]
  | 6 => some [3, 5, 6, 7, 8]
  | 7 => some [3, 6, 7, 8]
  | 8 => some [2]
  | _ => none
def loop121 : Nat → Option (List Nat)
  | 3 => some [3, 6, 7, 8]
  | 5 => some [3, 5, 6, 7, 8]
  | _ => none
def reg122 : Nat → Option (List Nat)
  | 0 => some [0, 1]
  | 1 => some [0, 1, 11]
  | 2 => some [0, 17]
  | 3 => some [4]
  | 4 => some [0, 5]
  | 5 => some [0, 5, 6]
  | 6 => some [0, 5, 6, 23]
  | 7 => some [0, 5, 6]
  | 8 => some [0, 5, 6, 7]
  | 9 => some [0, 5, 7]
  | 10 => some [5, 7, 34]
  | 11 => some [5, 7]
  | 12 => some [4]
  | 13 => some [4]
  | 14 => some [9]
  | 15 => some [4]
  | _ => none
def reg123 : Nat → Option (List Nat)
  | 0 => some [0]
  | 1 => some [0, 4, 5]
  | 2 => some [0, 4, 5, 12]
  | 3 => some [2, 3]
  | 4 => some [2, 3]
  | _ => none
def reg124 : Nat → Option (List Nat)
  | 0 => some [0, 1]
  | 1 => some [0, 1, 13]
  | 2 => some [0, 1]
  | 3 => some [4]
  | _ => none
def loop124 : Nat → Option (List Nat)
  | 1 => some [0, 1]
  | _ => none
def reg125 : Nat → Option (List Nat)
  | 0 => some [0, 2]
  | 1 => some [0, 2, 4]
  | 2 => some [0, 2, 4, 9]
  | 3 => some [0, 2, 4]
  | 4 => some [0, 2, 4, 5]
  | 5 => some [0, 2, 4, 5, 16]
  | 6 => some [2, 3]
  | 7 => some [0, 2, 4]
  | 8 => some [2, 3]
  | _ => none
def loop125 : Nat → Option (List Nat)
  | 2 => some [0, 2, 4]
  | _ => none
def reg126 : Nat → Option (List Nat)
  | 0 => some [0, 1]
  | 1 => some [0, 1, 7]
  | 2 => some [0, 1, 12]
  | 3 => some [0, 1]
  | 4 => some [4]
  | _ => none
def loop126 : Nat → Option (List Nat)
  | 1 => some [0, 1]
  | _ => none
def reg127 : Nat → Option (List Nat)
  | 0 => some [0, 1]
  | 1 => some [0, 1, 9]
  | 2 => some [0, 1, 5, 6]
  | 3 => some [0, 1, 6, 18]
  | 4 => some [0, 1]
  | 5 => some [4]
  | _ => none
def loop127 : Nat → Option (List Nat)
  | 1 => some [0, 1]
  | _ => none
def reg128 : Nat → Option (List Nat)
  | 0 => some [0]
  | 1 => some [0, 3]
  | 2 => some [3, 6, 7, 8]
  | 3 => some [3, 6, 7, 8, 9]
  | 4 => some [3, 5, 6, 7, 8]
  | 5 => some [3, 5, 6, 7, 8, 17]
  | 6 => some [2]
  | 7 => some [3, 6, 7, 8]
  | 8 => some [3, 6, 7, 8, 22]
  | 9 => some [2]
  | 10 => some [3, 6, 7, 8]
  | 11 => some [2]
  | _ => none
def loop128 : Nat → Option (List Nat)
  | 3 => some [3, 6, 7, 8]
  | _ => none
def reg129 : Nat → Option (List Nat)
  | 0 => some [0, 1]
  | 1 => some [0, 1, 7, 8]
  | 2 => some [0, 1, 7, 8, 9]
  | 3 => some [0, 1, 5, 7, 8]
  | 4 => some [0, 1, 5, 7, 8, 16]
  | 5 => some [4]
  | 6 => some [0, 1, 7, 8]
  | 7 => some [4]
  | _ => none
def loop129 : Nat → Option (List Nat)
  | 2 => some [0, 1, 7, 8]
  | _ => none
def reg130 : Nat → Option (List Nat)
  | 0 => some [0]
  | 1 => some [0, 20]
  | 2 => some []
  | 3 => some [2]
  | 4 => some [0, 3]
  | 5 => some [3]
  | 6 => some [2]
  | _ => none
def reg131 : Nat → Option (List Nat)
  | 0 => some [0]
  | 1 => some [0, 3]
  | 2 => some [0, 3, 4]
  | 3 => some [0, 3, 4, 9]
  | 4 => some [0, 3, 4]
  | 5 => some [0, 3, 4, 5]
  | 6 => some [0, 3, 4, 5, 21]
  | 7 => some [2]
  | 8 => some [0, 3, 4]
  | 9 => some [2]
  | _ => none
def loop131 : Nat → Option (List Nat)
  | 3 => some [0, 3, 4]
  | _ => none
def reg132 : Nat → Option (List Nat)
  | 0 => some [0, 2, 3, 8]
  | 1 => some [0, 2, 3, 8, 9]
  | 2 => some [0, 2, 3, 8, 9, 16]
  | 3 => some [0, 2, 3, 8, 9, 36]
  | 4 => some [0, 2, 3, 8, 9]
  | 5 => some [0, 2, 3, 8, 9, 52]
  | 6 => some [0, 2, 3, 9]
  | 7 => some [0, 2, 3, 8]
  | _ => none
def loop132 : Nat → Option (List Nat)
  | 1 => some [0, 2, 3, 8]
  | _ => none
def reg133 : Nat → Option (List Nat)
  | 0 => some [0]
  | 1 => some [2]
  | _ => none
def reg134 : Nat → Option (List Nat)
  | 0 => some [0]
  | 1 => some [0]
  | 2 => some [0]
  | 3 => some [0]
  | 4 => some [2]
  | _ => none
def reg135 : Nat → Option (List Nat)
  | 0 => some [0, 1, 2]
  | 1 => some [6]
  | _ => none
def reg136 : Nat → Option (List Nat)
  | 0 => some [0, 1, 2, 3, 4]
  | 1 => some [0, 1, 2, 3, 4]
  | 2 => some [0, 1, 2, 4]
  | 3 => some [2]
  | 4 => some [10]
  | _ => none
def reg137 : Nat → Option (List Nat)
  | 0 => some [0]
  | 1 => some [2]
  | _ => none
def reg138 : Nat → Option (List Nat)
  | 0 => some [0, 1, 2, 3, 4, 10]
  | 1 => some [0, 1, 2, 3, 4, 10, 11]
  | 2 => some [0, 1, 2, 3, 4, 10, 11, 12]
  | 3 => some [0, 1, 2, 3, 4, 10, 11, 12, 25]
  | 4 => some []
  | 5 => some [0, 1, 2, 3, 4, 10, 11, 12, 32]
  | 6 => some []
  | 7 => some [0, 1, 2, 3, 4, 10, 11, 12, 39]
  | 8 => some [0, 1, 2, 3, 4, 10, 11, 12]
  | 9 => some [0, 1, 2, 3, 4, 10, 11, 12]
  | 10 => some [0, 1, 2, 3, 4, 10, 11, 12, 13, 14]
  | 11 => some [0, 1, 2, 3, 4, 10, 11, 12, 13, 14, 56]
  | 12 => some [0, 1, 2, 3, 4, 10, 11, 12, 13]
  | 13 => some [0, 1, 2, 3, 4, 10, 11, 12, 13]
  | 14 => some [0, 1, 2, 3, 4, 10, 11, 12, 13, 14]
  | 15 => some [0, 1, 2, 3, 4, 10, 11, 12, 13, 75]
  | 16 => some [0, 1, 2, 3, 4, 10, 11, 12, 13, 80]
  | 17 => some [0, 1, 2, 3, 4, 10, 11, 12, 13, 97]
  | 18 => some [0, 2, 3, 4, 10, 11, 15]
  | 19 => some [0, 1, 2, 3, 4, 10, 11]
  | 20 => some [0, 1, 2, 3, 4, 12, 16, 17]
  | 21 => some [0, 1, 2, 3, 4, 11, 12, 16]
  | 22 => some [0, 1, 2, 3, 4, 11, 12, 16, 18, 19]
  | 23 => some [0, 1, 2, 3, 4, 11, 16, 18, 19, 20]
  | 24 => some [0, 1, 2, 3, 4, 11, 16, 18, 19, 20, 125]
  | 25 => some [0, 1, 2, 3, 4, 10, 11, 16]
  | 26 => some [0, 2, 3, 4, 10, 11, 16]
  | 27 => some [0, 1, 2, 3, 4, 10, 11]
  | 28 => some [0, 1, 2, 3, 4, 10, 11, 16]
  | 29 => some [0, 1, 3, 4, 10, 11, 16]
  | 30 => some [0, 1, 2, 3, 4, 10, 11]
  | _ => none
def loop138 : Nat → Option (List Nat)
  | 2 => some [0, 1, 2, 3, 4, 10, 11]
  | _ => none
def reg139 : Nat → Option (List Nat)
  | 0 => some [0]
  | 1 => some [0, 4]
  | 2 => some [2]
  | 3 => some [2]
  | _ => none
def reg140 : Nat → Option (List Nat)
  | 0 => some [0]
  | 1 => some [0, 3]
  | 2 => some [2]
  | _ => none
def reg141 : Nat → Option (List Nat)
  | 0 => some [0, 1, 4]
  | 1 => some [0, 1, 4, 20]
  | 2 => some [0, 1, 4, 5]
  | 3 => some [0, 1, 4, 5]
  | 4 => some [0, 1, 4, 6, 7]
  | 5 => some [0, 1, 4, 6, 8, 9]
  | 6 => some [0, 1, 4, 8, 9, 10, 11]
  | 7 => some [0, 1, 4, 8, 10, 11]
  | 8 => some [0, 1, 4, 10, 11]
  | 9 => some [0, 1, 4, 10]
  | 10 => some [0, 1, 4]
  | 11 => some [0, 1, 4]
  | 12 => some [0, 4, 12]
  | 13 => some [0, 4, 12, 99]
  | 14 => some [0, 4, 12, 13]
  | 15 => some [0, 4, 12, 13]
  | 16 => some [0, 4, 12, 14, 15]
  | 17 => some [0, 4, 12, 14]
  | 18 => some [0, 4, 12]
  | 19 => some [0, 4, 12]
  | 20 => some [0, 4, 12, 139]
  | 21 => some [0, 4, 12, 16]
  | 22 => some [0, 4, 12, 16]
  | 23 => some [0, 4, 12]
  | 24 => some [0, 4, 12]
  | 25 => some [0, 12, 161]
  | 26 => some []
  | _ => none
def loop141 : Nat → Option (List Nat)
  | 1 => some [0, 1, 4]
  | _ => none
def reg142 : Nat → Option (List Nat)
  | 0 => some [0, 1, 2, 3, 4, 10, 11]
  | 1 => some [0, 1, 2, 3, 4, 10, 11, 28]
  | 2 => some [0, 1, 2, 3, 4, 10, 11]
  | 3 => some [0, 1, 2, 3, 4, 10, 11, 12]
  | 4 => some [0, 1, 2, 3, 4, 10, 11, 12, 13]
  | 5 => some [0, 1, 2, 3, 4, 10, 11, 12, 13, 30]
  | 6 => some [0, 1, 2, 3, 4, 10, 11, 12, 13]
  | 7 => some [0, 1, 2, 3, 4, 10, 11, 12, 13, 34]
  | 8 => some [0, 1, 2, 3, 4, 10, 11, 12, 13, 14]
  | 9 => some [0, 1, 2, 3, 4, 10, 11, 12, 13, 14, 15]
  | 10 => some [0, 1, 3, 4, 10, 11, 12, 13, 14, 15, 16]
  | 11 => some [0, 1, 3, 4, 10, 11, 12, 13, 14, 15, 16, 46]
  | 12 => some [0, 1, 3, 4, 10, 11, 12, 13, 14, 15, 16]
  | 13 => some [0, 1, 3, 4, 10, 11, 12, 13, 14, 15, 16]
  | 14 => some [0, 1, 3, 4, 10, 11, 12, 13, 14, 15, 16]
  | 15 => some [0, 1, 3, 4, 10, 11, 12, 13]
  | 16 => some [0, 3, 4, 10, 11, 12, 13]
  | 17 => some [0, 1, 3, 4, 10, 11, 12, 13, 17]
  | 18 => some [0, 1, 3, 4, 10, 11, 12, 13, 17, 68]
  | 19 => some [0, 1, 3, 4, 10, 11, 12, 13, 17]
  | 20 => some [0, 1, 3, 4, 10, 11, 12, 13, 17, 18]
  | 21 => some [0, 3, 4, 10, 11, 12, 13, 17, 18]
  | 22 => some [0, 1, 3, 4, 10, 11, 12, 13, 17]
  | 23 => some [0, 1, 3, 4, 10, 11, 12, 13]
  | 24 => some [0, 3, 4, 10, 11, 12, 13]
  | 25 => some [0, 4, 10, 11, 12, 13, 89]
  | 26 => some [0, 4, 10, 11, 12, 13]
  | 27 => some [0, 4, 10, 11, 12, 13]
  | 28 => some [0, 10, 11, 12, 13, 94]
  | 29 => some [10, 11]
  | 30 => some [10, 11]
  | _ => none
def loop142 : Nat → Option (List Nat)
  | 11 => some [0, 1, 3, 4, 10, 11, 12, 13, 14, 15, 16]
  | 18 => some [0, 1, 3, 4, 10, 11, 12, 13, 17]
  | _ => none
def reg143 : Nat → Option (List Nat)
  | 0 => some [0]
  | 1 => some [0, 4]
  | 2 => some [0, 30]
  | 3 => some [0, 5]
  | 4 => some [0, 5, 39]
  | 5 => some [0, 5]
  | 6 => some [0, 5, 44]
  | 7 => some [2, 3]
  | 8 => some [0, 5, 6]
  | 9 => some [5, 6, 47, 48, 49]
  | 10 => some [5, 6, 47, 48, 49, 50]
  | 11 => some [5, 6, 8, 47, 48, 49]
  | 12 => some [5, 6, 8, 47, 48, 49]
  | 13 => some [5, 6, 8, 47, 48, 49, 56]
  | 14 => some [2, 3]
  | 15 => some [5, 6, 47, 48, 49]
  | 16 => some [5, 6, 47, 48, 49]
  | 17 => some [6, 66]
  | 18 => some [6]
  | 19 => some [2, 3]
  | 20 => some [9, 10]
  | 21 => some [2, 3]
  | _ => none
def loop143 : Nat → Option (List Nat)
  | 10 => some [5, 6, 47, 48, 49]
  | _ => none
def reg144 : Nat → Option (List Nat)
  | 0 => some [0, 1, 2, 3, 4]
  | 1 => some [0, 1, 2, 3, 4, 11]
  | 2 => some [0, 1, 2, 3, 4, 11, 12]
  | 3 => some [10]
  | 4 => some [0, 1, 2, 3, 4, 11, 19]
  | 5 => some [10]
  | 6 => some [0, 1, 2, 3, 4, 11, 26]
  | 7 => some [10]
  | 8 => some [0, 1, 3, 4, 34]
  | 9 => some [10]
  | 10 => some [10]
  | _ => none
def reg145 : Nat → Option (List Nat)
  | 0 => some [0, 1]
  | 1 => some [4]
  | _ => none
def reg146 : Nat → Option (List Nat)
  | 0 => some [0]
  | 1 => some [0, 10]
  | 2 => some [2, 3]
  | 3 => some [2, 3]
  | _ => none
def reg147 : Nat → Option (List Nat)
  | 0 => some [0, 1]
  | 1 => some [4]
  | _ => none
def reg148 : Nat → Option (List Nat)
  | 0 => some [0, 1, 2, 3]
  | 1 => some [1, 2, 3, 18]
  | 2 => some [1, 2]
  | 3 => some [8, 9]
  | 4 => some [8, 9]
  | _ => none
def reg149 : Nat → Option (List Nat)
  | 0 => some [0, 1, 2, 3, 8]
  | 1 => some [0, 1, 2, 3, 8, 14]
  | 2 => some [0, 1, 2, 3, 8]
  | 3 => some [0, 1, 2, 3, 8, 9]
  | 4 => some [0, 1, 2, 3, 8, 9, 34]
  | 5 => some [0, 1, 2, 3, 8, 9]
  | 6 => some [0, 1, 2, 3, 8, 9]
  | _ => none
def loop149 : Nat → Option (List Nat)
  | 1 => some [0, 1, 2, 3, 8]
  | 4 => some [0, 1, 2, 3, 8, 9]
  | _ => none
def reg150 : Nat → Option (List Nat)
  | 0 => some [0, 1, 2, 3, 8]
  | 1 => some [0, 1, 2, 3, 8, 9]
  | 2 => some [0, 3, 8, 9, 10]
  | 3 => some [0, 3, 8, 9, 10, 11]
  | 4 => some [0, 3, 8, 9, 10, 11, 21]
  | 5 => some [0, 3, 8, 9, 10, 11]
  | 6 => some [0, 3, 8, 9, 10, 11]
  | 7 => some [0, 3, 8, 9, 12]
  | 8 => some [0, 3, 8, 9, 12, 33]
  | 9 => some [0, 3, 8, 9, 12]
  | 10 => some [0, 3, 8, 9, 12]
  | 11 => some [0, 3, 8, 9, 12]
  | _ => none
def loop150 : Nat → Option (List Nat)
  | 4 => some [0, 3, 8, 9, 10, 11]
  | 8 => some [0, 3, 8, 9, 12]
  | _ => none
def reg151 : Nat → Option (List Nat)
  | 0 => some [0, 1, 8]
  | 1 => some [0, 1, 8, 17]
  | 2 => some [0, 1, 8, 9]
  | 3 => some [0, 1, 8, 9, 10]
  | 4 => some [0, 1, 8, 9, 10, 11]
  | 5 => some [0, 1, 8, 9, 10, 11, 35]
  | 6 => some [0, 1, 8, 9, 10, 11]
  | 7 => some [0, 1, 8, 9, 10, 11, 12]
  | 8 => some [0, 1, 8, 9, 10, 11, 12, 45]
  | 9 => some [0, 1, 8, 9, 10, 11, 12]
  | 10 => some [0, 1, 8, 9, 10, 11]
  | _ => none
def loop151 : Nat → Option (List Nat)
  | 5 => some [0, 1, 8, 9, 10, 11]
  | _ => none
def reg152 : Nat → Option (List Nat)
  | 0 => some [0, 1, 2, 3]
  | 1 => some [0, 1, 3, 10]
  | 2 => some [0, 1, 3, 10, 11]
  | 3 => some [0, 1, 3, 10, 11, 12]
  | 4 => some [0, 1, 3, 10, 11, 12, 13]
  | 5 => some [0, 3, 10, 11, 12, 13, 14]
  | 6 => some [0, 3, 10, 11, 12, 13, 14, 34]
  | 7 => some [0, 3, 11, 12, 13, 14, 36]
  | 8 => some [0, 3, 11, 12, 13, 14]
  | 9 => some [0, 3, 11, 12, 13, 14]
  | 10 => some [0, 3, 11, 12, 13, 14]
  | 11 => some [11, 13]
  | 12 => some [13, 55]
  | 13 => some [8, 9]
  | 14 => some [13, 55, 57]
  | 15 => some [8, 9]
  | 16 => some [13, 60]
  | 17 => some [8, 9]
  | _ => none
def reg153 : Nat → Option (List Nat)
  | 0 => some [0, 2, 8]
  | 1 => some [0, 8, 9]
  | 2 => some [0, 8, 9, 15]
  | 3 => some [0, 8, 9]
  | 4 => some [0, 8, 9]
  | 5 => some [0, 8, 9]
  | _ => none
def loop153 : Nat → Option (List Nat)
  | 2 => some [0, 8, 9]
  | _ => none
def reg154 : Nat → Option (List Nat)
  | 0 => some [0, 1, 2, 3]
  | 1 => some [0, 1, 2, 3, 9]
  | 2 => some [0, 1, 2, 3, 9, 10]
  | 3 => some [0, 1, 2, 3, 9, 10, 16]
  | 4 => some [0, 1, 2, 3, 9, 10]
  | 5 => some [0, 1, 2, 3, 9, 10, 36]
  | 6 => some [0, 1, 2, 3, 9, 10]
  | 7 => some [0, 1, 2, 3, 9, 10, 41]
  | 8 => some [8]
  | 9 => some [0, 1, 2, 3, 9, 10, 45]
  | 10 => some [8]
  | 11 => some [0, 1, 2, 3, 9, 10]
  | 12 => some [0, 1, 2, 3, 9, 10, 65]
  | 13 => some [0, 1, 2, 3, 9, 10, 11]
  | 14 => some [0, 1, 2, 3, 9, 10, 11, 69]
  | 15 => some [0, 1, 2, 3, 9, 10, 11]
  | 16 => some [0, 1, 2, 3, 9, 10, 11, 84]
  | 17 => some [0, 1, 2, 3, 9, 10, 11]
  | 18 => some [0, 1, 2, 3, 9, 10, 104]
  | 19 => some [0, 1, 2, 3, 9, 10, 12]
  | 20 => some [0, 1, 2, 3, 9, 10, 12, 109]
  | 21 => some [0, 1, 2, 3, 9, 10, 12]
  | 22 => some [0, 1, 2, 3, 9, 10, 12, 124]
  | 23 => some [0, 1, 2, 3, 9, 10, 12]
  | 24 => some [8]
  | _ => none
def loop154 : Nat → Option (List Nat)
  | 3 => some [0, 1, 2, 3, 9, 10]
  | 5 => some [0, 1, 2, 3, 9, 10]
  | 14 => some [0, 1, 2, 3, 9, 10, 11]
  | 20 => some [0, 1, 2, 3, 9, 10, 12]
  | _ => none
def reg155 : Nat → Option (List Nat)
  | 0 => some [0, 1, 2, 3, 4]
  | 1 => some [0, 1, 2, 4]
  | 2 => some [0, 1, 4, 11, 12]
  | 3 => some [0, 1, 4, 11, 12, 47]
  | 4 => some [0, 1, 4, 11, 12]
  | 5 => some [0, 1, 4, 11, 12, 65]
  | 6 => some [0, 1, 4, 11, 12]
  | 7 => some [0, 1, 4, 11, 12, 70]
  | 8 => some [0, 1, 4, 11, 12]
  | 9 => some [0, 1, 4, 11, 12]
  | 10 => some [0, 1, 4, 11, 12]
  | 11 => some [10]
  | _ => none
def loop155 : Nat → Option (List Nat)
  | 0 => some [0, 1, 4, 11, 12]
  | 3 => some [0, 1, 4, 11, 12]
  | 5 => some [0, 1, 4, 11, 12]
  | _ => none
def reg156 : Nat → Option (List Nat)
  | 0 => some [0, 1, 2, 3, 4]
  | 1 => some [0, 1, 2, 4]
  | 2 => some [0, 1, 4, 12, 13]
  | 3 => some [0, 1, 4, 12, 13, 47]
  | 4 => some [0, 1, 4, 12, 13]
  | 5 => some [0, 1, 4, 12, 13, 66]
  | 6 => some [0, 1, 4, 12, 13]
  | 7 => some [0, 1, 4, 12, 13, 71]
  | 8 => some [13]
  | 9 => some [10, 11]
  | 10 => some [0, 1, 4, 12, 13]
  | 11 => some [0, 1, 4, 12, 13]
  | 12 => some [0, 1, 4, 12, 13]
  | 13 => some [0, 1, 4, 12, 13, 120]
  | 14 => some [0, 1, 4, 12, 13]
  | 15 => some [0, 1, 4, 12, 13, 139]
  | 16 => some [0, 1, 4, 12, 13]
  | 17 => some [0, 1, 4, 12, 13, 144]
  | 18 => some [0, 1, 4, 12, 13]
  | 19 => some [0, 1, 4, 12, 13]
  | 20 => some [0, 1, 4, 12, 13]
  | 21 => some [13]
  | 22 => some [10, 11]
  | _ => none
def loop156 : Nat → Option (List Nat)
  | 0 => some [0, 1, 4, 12, 13]
  | 3 => some [0, 1, 4, 12, 13]
  | 5 => some [0, 1, 4, 12, 13]
  | 13 => some [0, 1, 4, 12, 13]
  | 15 => some [0, 1, 4, 12, 13]
  | _ => none
def reg157 : Nat → Option (List Nat)
  | 0 => some [0]
  | 1 => some [2]
  | _ => none
def reg158 : Nat → Option (List Nat)
  | 0 => some [0]
  | 1 => some [3]
  | 2 => some [2]
  | 3 => some [2]
  | _ => none
def reg159 : Nat → Option (List Nat)
  | 0 => some [0]
  | 1 => some [2]
  | _ => none
def reg160 : Nat → Option (List Nat)
  | 0 => some [0]
  | 1 => some [2]
  | 2 => some [2]
  | _ => none
def reg161 : Nat → Option (List Nat)
  | 0 => some [0, 1, 2]
  | 1 => some [0, 1, 2, 13]
  | 2 => some [6, 7]
  | 3 => some [0, 1, 2, 8]
  | 4 => some [0, 1, 2, 8, 16]
  | 5 => some [0, 1, 2, 8, 16, 17]
  | 6 => some [0, 1, 2, 8]
  | 7 => some [0, 1, 2, 8, 21]
  | 8 => some [0, 1, 2]
  | 9 => some [0, 1, 2, 8]
  | 10 => some [0, 1, 2, 8]
  | 11 => some [2, 7, 8, 9]
  | 12 => some [2, 7, 8, 9, 38]
  | 13 => some [6, 7]
  | 14 => some [2, 8, 9, 41]
  | 15 => some [2, 8, 9]
  | 16 => some [8, 9, 10]
  | 17 => some [8, 9, 10, 52]
  | 18 => some [6, 7]
  | 19 => some [8, 9, 10, 62]
  | 20 => some [6, 7]
  | 21 => some [8, 11]
  | 22 => some [11, 69]
  | 23 => some [11]
  | 24 => some [6, 7]
  | _ => none
def reg162 : Nat → Option (List Nat)
  | 0 => some [0, 1]
  | 1 => some [4]
  | _ => none
def reg163 : Nat → Option (List Nat)
  | 0 => some [0, 1]
  | 1 => some [4]
  | _ => none
def reg164 : Nat → Option (List Nat)
  | 0 => some [0, 1, 2]
  | 1 => some [6]
  | _ => none
def reg165 : Nat → Option (List Nat)
  | 0 => some [0, 1, 2]
  | 1 => some [6]
  | _ => none
def reg166 : Nat → Option (List Nat)
  | 0 => some [0]
  | 1 => some [0, 4]
  | 2 => some [0, 4, 16]
  | 3 => some [2, 3]
  | 4 => some [0, 4, 5]
  | 5 => some [0, 4, 5, 6]
  | 6 => some [0, 4, 5, 6, 23]
  | 7 => some [0, 7]
  | 8 => some [2, 3]
  | 9 => some [0, 4, 5, 6, 8]
  | 10 => some [0, 4, 5, 8, 9]
  | 11 => some [0, 5, 8, 9, 45]
  | 12 => some [2, 3]
  | 13 => some [0, 5, 8, 9, 10]
  | 14 => some [0, 5, 8, 10, 57]
  | 15 => some [2, 3]
  | 16 => some [0, 5, 8, 10, 59]
  | 17 => some [2, 3]
  | 18 => some [0, 5, 8, 10, 11]
  | 19 => some [0, 5, 8, 10, 11, 75]
  | 20 => some [2, 3]
  | 21 => some [0, 5, 10, 11, 77]
  | 22 => some [2, 3]
  | 23 => some [5, 10, 11, 12]
  | 24 => some [5, 10, 11, 12, 98]
  | 25 => some [2, 3]
  | 26 => some [2, 3]
  | _ => none
def reg168 : Nat → Option (List Nat)
  | 0 => some [0, 2, 3, 4, 10]
  | 1 => some [0, 2, 3, 4, 10, 11]
  | 2 => some [0, 2, 3, 4, 10, 11, 18]
  | 3 => some [0, 2, 3, 4, 10, 11, 40]
  | 4 => some [0, 2, 3, 4, 10, 11]
  | 5 => some [0, 2, 3, 4, 10, 11, 58]
  | 6 => some [0, 2, 3, 4, 11]
  | 7 => some [0, 2, 3, 4, 10]
  | _ => none
def loop168 : Nat → Option (List Nat)
  | 1 => some [0, 2, 3, 4, 10]
  | _ => none
def reg169 : Nat → Option (List Nat)
  | 0 => some [0, 1, 2, 3]
  | 1 => some [8]
  | _ => none
def reg170 : Nat → Option (List Nat)
  | 0 => some [0, 1, 2, 3, 4, 5]
  | 1 => some [0, 1, 2, 3, 4, 5]
  | 2 => some [0, 1, 2, 4, 5]
  | 3 => some [2]
  | 4 => some [12]
  | _ => none
def reg171 : Nat → Option (List Nat)
  | 0 => some [0]
  | 1 => some [0, 4]
  | 2 => some [2]
  | 3 => some [2]
  | _ => none
def reg172 : Nat → Option (List Nat)
  | 0 => some [0]
  | 1 => some [0, 4]
  | 2 => some [2]
  | 3 => some [2]
  | _ => none
def reg173 : Nat → Option (List Nat)
  | 0 => some [0, 1, 2]
  | 1 => some [0, 1, 2, 19]
  | 2 => some [6, 7]
  | 3 => some [0, 1, 2, 8]
  | 4 => some [0, 1, 2, 8, 9]
  | 5 => some [6, 7]
  | 6 => some [0, 1, 2, 8, 9, 25]
  | 7 => some [0, 2, 8, 9, 32]
  | 8 => some [0, 1, 2, 8, 9]
  | 9 => some [0, 1, 2, 8, 9, 37]
  | 10 => some [0, 1, 2, 8, 9]
  | 11 => some [0, 1, 2, 8, 9]
  | 12 => some [0, 2, 8, 9, 40]
  | 13 => some [0, 1, 2, 8, 9]
  | 14 => some [0, 1, 2, 8, 9]
  | 15 => some [0, 2, 8, 9, 52]
  | 16 => some [0, 1, 2, 8, 9]
  | 17 => some [0, 1, 2, 8, 9]
  | 18 => some [0, 2, 8, 9, 64]
  | 19 => some [0, 1, 2, 8, 9]
  | 20 => some [0, 1, 2, 8, 9]
  | 21 => some [0, 1, 2, 8, 9, 77]
  | 22 => some [0, 1, 2, 8, 9]
  | 23 => some [0, 1, 2, 8, 9, 83]
  | 24 => some [6, 7]
  | 25 => some [0, 1, 2, 8, 9]
  | 26 => some [0, 1, 2, 8, 9, 85]
  | 27 => some [0, 1, 2, 8, 9, 10]
  | 28 => some [0, 1, 2, 8, 9, 85, 90]
  | 29 => some [0, 1, 2, 8, 9, 10]
  | 30 => some [0, 1, 2, 8, 9, 92]
  | 31 => some [0, 1, 2, 8, 9, 10]
  | 32 => some [0, 1, 8, 9, 10, 11]
  | 33 => some [0, 1, 8, 9, 10, 11, 12]
  | 34 => some [0, 1, 8, 9, 10, 11, 12, 13]
  | 35 => some [1, 8, 9, 10, 11, 12, 13, 99, 100, 101]
  | 36 => some [1, 8, 9, 10, 11, 12, 13, 99, 100, 101, 102]
  | 37 => some [1, 8, 9, 10, 11, 12, 13, 15, 99, 100, 101]
  | 38 => some [1, 8, 9, 10, 11, 12, 13, 15, 99, 100, 101]
  | 39 => some [6, 7]
  | 40 => some [1, 8, 9, 10, 11, 12, 13, 15, 99, 100, 101, 106]
  | 41 => some [1, 8, 9, 10, 11, 12, 13, 99, 100, 101]
  | 42 => some [1, 8, 9, 10, 11, 12, 13, 15, 99, 100, 101, 112]
  | 43 => some [1, 8, 9, 10, 11, 12, 13, 16, 99, 100, 101]
  | 44 => some [1, 8, 9, 10, 11, 12, 13, 15, 99, 100, 101, 121]
  | 45 => some [1, 8, 9, 10, 11, 12, 13, 16, 99, 100, 101]
  | 46 => some [1, 8, 9, 10, 11, 12, 13, 16, 99, 100, 101, 137]
  | 47 => some [6, 7]
  | 48 => some [1, 8, 9, 10, 11, 12, 13, 16, 99, 100, 101, 141]
  | 49 => some [6, 7]
  | 50 => some [1, 8, 9, 10, 11, 12, 13, 16, 99, 100, 101]
  | 51 => some [1, 8, 9, 10, 11, 12, 13, 17, 99, 100, 101]
  | 52 => some [1, 8, 9, 10, 11, 12, 17, 99, 100, 101, 159]
  | 53 => some [6, 7]
  | 54 => some [1, 8, 9, 10, 11, 12, 13, 99, 100, 101]
  | 55 => some [1, 8, 9, 10, 11, 12, 13, 99, 100, 101]
  | 56 => some [13, 169]
  | 57 => some [6, 7]
  | 58 => some [6, 7]
  | _ => none
def loop173 : Nat → Option (List Nat)
  | 36 => some [1, 8, 9, 10, 11, 12, 13, 99, 100, 101]
  | _ => none
def reg174 : Nat → Option (List Nat)
  | 0 => some [0]
  | 1 => some [0, 6]
  | 2 => some [2]
  | 3 => some [0, 3]
  | 4 => some [3]
  | 5 => some [2]
  | _ => none
def reg175 : Nat → Option (List Nat)
  | 0 => some [0]
  | 1 => some [2]
  | _ => none
def reg176 : Nat → Option (List Nat)
  | 0 => some [0, 1]
  | 1 => some [4]
  | _ => none
def reg177 : Nat → Option (List Nat)
  | 0 => some [0]
  | 1 => some [0, 3]
  | 2 => some [2]
  | 3 => some [10]
  | 4 => some [2]
  | 5 => some [2]
  | _ => none
def reg178 : Nat → Option (List Nat)
  | 0 => some [0]
  | 1 => some [2]
  | _ => none
def reg180 : Nat → Option (List Nat)
  | 0 => some [0, 1, 2, 3, 4]
  | 1 => some [1, 2, 3, 22]
  | 2 => some [1, 2]
  | 3 => some [10, 11]
  | 4 => some [10, 11]
  | _ => none
def reg181 : Nat → Option (List Nat)
  | 0 => some [0]
  | 1 => some [2]
  | _ => none
def reg182 : Nat → Option (List Nat)
  | 0 => some [0]
  | 1 => some [0, 3]
  | 2 => some [0, 3, 4]
  | 3 => some [0, 3, 4, 18]
  | 4 => some [0, 3, 4]
  | 5 => some [0, 3, 4, 5]
  | 6 => some [0, 3, 4, 5, 46]
  | 7 => some [0, 4]
  | 8 => some [0, 3, 4]
  | 9 => some [0, 3, 4, 5]
  | 10 => some [0, 3, 4, 5, 54]
  | 11 => some [0, 3, 4, 5]
  | 12 => some [0, 3, 4, 5, 83]
  | 13 => some [0, 3, 4, 5]
  | 14 => some [0, 3, 4, 5, 87]
  | 15 => some [0, 4, 5, 89]
  | 16 => some [2]
  | 17 => some [0, 3, 4, 5]
  | 18 => some [0, 4, 5, 91]
  | 19 => some [2]
  | 20 => some [0, 3, 4, 5]
  | 21 => some [2]
  | _ => none
def loop182 : Nat → Option (List Nat)
  | 10 => some [0, 3, 4, 5]
  | _ => none
def reg183 : Nat → Option (List Nat)
  | 0 => some [0, 1]
  | 1 => some [4]
  | _ => none
def draw16 : Nat → DrawAnn
  | 8 => ⟨[[], [], [], [1, 2], [1, 2, 3], [], [1, 2, 3, 4, 5], [1, 2, 3, 4, 5, 6], [0, 1, 2, 3, 4, 5, 6, 7], [0, 1, 2, 3, 4, 5, 6, 7, 8]], [(4, [6], false), (5, [6], false)], []⟩
  | _ => ⟨[], [], []⟩
def dok16 : Nat → Bool
  | 8 => true
  | _ => false
def draw22 : Nat → DrawAnn
  | 6 => ⟨[[], [], [0, 1], [0, 1, 2], [], [], [4, 5], [4, 5, 6], [0, 1, 2, 3, 4, 5, 6, 7]], [(3, [], true), (7, [], true)], []⟩
  | _ => ⟨[], [], []⟩
def dok22 : Nat → Bool
  | 6 => true
  | _ => false
def draw24 : Nat → DrawAnn
  | 6 => ⟨[[], [0], [], [0, 1, 2], [0, 1, 2, 3], [], [5], [], [5, 6, 7], [5, 6, 7, 8], [0, 1, 2, 3, 4, 5, 6, 7, 8, 9], [0, 1, 2, 3, 4, 5, 6, 7, 8, 9, 10]], [(1, [10], false), (4, [10], false), (6, [10], false), (9, [10], false)], []⟩
  | 14 => ⟨[[], [0], [], [0, 1, 2], [0, 1, 2, 3], [], [5], [], [5, 6, 7], [5, 6, 7, 8], [0, 1, 2, 3, 4, 5, 6, 7, 8, 9]], [(1, [], true), (4, [], true), (6, [], true), (9, [], true)], []⟩
  | 15 => ⟨[[], [0], [], [0, 1, 2], [0, 1, 2, 3], [], [5], [], [5, 6, 7], [5, 6, 7, 8], [0, 1, 2, 3, 4, 5, 6, 7, 8, 9], [0, 1, 2, 3, 4, 5, 6, 7, 8, 9, 10]], [(1, [10], false), (4, [10], false), (6, [10], false), (9, [10], false)], []⟩
  | _ => ⟨[], [], []⟩
def dok24 : Nat → Bool
  | 6 => true
  | 14 => true
  | 15 => true
  | _ => false
def draw37 : Nat → DrawAnn
  | 18 => ⟨[[], [], [1], [], [3], [3, 4], [1, 2, 3, 4, 5], [0], [0, 1, 2, 3, 4, 5, 6, 7]], [(4, [], true)], []⟩
  | _ => ⟨[], [], []⟩
def dok37 : Nat → Bool
  | 18 => true
  | _ => false
def draw39 : Nat → DrawAnn
  | 7 => ⟨[[], [], [1], [], [1, 2, 3], [1, 2, 3, 4], [0, 1, 2, 3, 4, 5], [0, 1, 2, 3, 4, 5, 6]], [(0, [6], false), (2, [6], false), (5, [6], false)], []⟩
  | 11 => ⟨[[], [0], [], [0, 1, 2], [0, 1, 2, 3], [], [5], [0, 1, 2, 3, 4, 5, 6], [], [8], [], [8, 9, 10], [0, 1, 2, 3, 4, 5, 6, 7, 8, 9, 10, 11], [0, 1, 2, 3, 4, 5, 6, 7, 8, 9, 10, 11, 12], [0, 1, 2, 3, 4, 5, 6, 7, 8, 9, 10, 11, 12, 13]], [(1, [4], false), (5, [4, 7], false), (9, [4, 7, 12], false)], []⟩
  | 13 => ⟨[[], [0], [], [0, 1, 2], [0, 1, 2, 3], [], [0, 1, 2, 3, 4, 5], [], [7], [], [7, 8, 9], [0, 1, 2, 3, 4, 5, 6, 7, 8, 9, 10], [0, 1, 2, 3, 4, 5, 6, 7, 8, 9, 10, 11], [0, 1, 2, 3, 4, 5, 6, 7, 8, 9, 10, 11, 12]], [(1, [4], false), (8, [4, 6, 11], false)], []⟩
  | 15 => ⟨[[], [0], [], [0, 1, 2], [0, 1, 2, 3], [], [5], [], [5, 6, 7], [5, 6, 7, 8], [0, 1, 2, 3, 4, 5, 6, 7, 8, 9], [0, 1, 2, 3, 4, 5, 6, 7, 8, 9, 10], [0, 1, 2, 3, 4, 5, 6, 7, 8, 9, 10, 11]], [(1, [12], false), (4, [12], false), (6, [12], false), (9, [12], false)], []⟩
  | 27 => ⟨[[], [0], [], [], [3], [], [3, 4, 5], [3, 4, 5, 6], [], [3, 4, 5, 6, 7, 8], [0, 1, 2, 3, 4, 5, 6, 7, 8, 9], [0, 1, 2, 3, 4, 5, 6, 7, 8, 9, 10]], [(1, [11], false), (4, [11], false), (7, [11], false)], []⟩
  | _ => ⟨[], [], []⟩
def dok39 : Nat → Bool
  | 7 => true
  | 11 => true
  | 13 => true
  | 15 => true
  | 27 => true
  | _ => false
def draw40 : Nat → DrawAnn
  | 6 => ⟨[[], [0], [0, 1], [0, 1, 2], [], [4], [4, 5], [4, 5, 6], [0, 1, 2, 3, 4, 5, 6, 7], [0, 1, 2, 3, 4, 5, 6, 7, 8], [0, 1, 2, 3, 4, 5, 6, 7, 8, 9], [], [11], [11, 12], [11, 12, 13], [], [15], [15, 16], [15, 16, 17], [0, 1, 2, 3, 4, 5, 6, 7, 8, 11, 12, 13, 14, 15, 16, 17, 18], [0, 1, 2, 3, 4, 5, 6, 7, 8, 9, 10, 11, 12, 13, 14, 15, 16, 17, 18, 19], [0, 1, 2, 3, 4, 5, 6, 7, 8, 9, 10, 11, 12, 13, 14, 15, 16, 17, 18, 19, 20], [0, 1, 2, 3, 4, 5, 6, 7, 8, 9, 10, 11, 12, 13, 14, 15, 16, 17, 18, 19, 20, 21]], [(1, [8], false), (3, [8], false), (5, [8], false), (7, [8], false), (12, [8, 19], false), (14, [8, 19], false), (16, [8, 19], false), (18, [8, 19], false)], []⟩
  | 8 => ⟨[[], [0], [], [2], [2, 3], [0, 1, 2, 3, 4], [0, 1, 2, 3, 4, 5], [], [7], [], [9], [7, 8, 9, 10], [7, 8, 9, 10, 11], [], [13], [13, 14], [13, 14, 15], [7, 8, 9, 10, 11, 12, 13, 14, 15, 16], [0, 1, 2, 3, 4, 5, 6, 7, 8, 9, 10, 11, 12, 13, 14, 15, 16, 17], [0, 1, 2, 3, 4, 5, 6, 7, 8, 9, 10, 11, 12, 13, 14, 15, 16, 17, 18]], [(1, [17], true), (3, [17], true), (8, [17], false), (10, [17], false), (12, [17], false), (14, [17], false), (16, [17], false)], []⟩
  | 17 => ⟨[[], [], [1], [1, 2], [1, 2, 3], [], [1, 2, 3, 4, 5], [0, 1, 2, 3, 4, 5, 6], [0, 1, 2, 3, 4, 5, 6, 7]], [(2, [6], false), (4, [6], false), (5, [6], false)], []⟩
  | _ => ⟨[], [], []⟩
def dok40 : Nat → Bool
  | 6 => true
  | 8 => true
  | 17 => true
  | _ => false
def draw42 : Nat → DrawAnn
  | 5 => ⟨[[], [], [1], [0, 1, 2], [0, 1, 2, 3], [], [5], [5, 6], [0, 1, 2, 3, 4, 5, 6, 7], [0, 1, 2, 3, 4, 5, 6, 7, 8]], [(2, [], true), (4, [], true), (7, [], true)], []⟩
  | 11 => ⟨[[], [], [0, 1], [0, 1, 2], [], [4], [], [4, 5, 6], [4, 5, 6, 7], [4, 5, 6, 7, 8], [4, 5, 6, 7, 8, 9], [0, 1, 2, 3, 4, 5, 6, 7, 8, 9, 10], [0, 1, 2, 3, 4, 5, 6, 7, 8, 9, 10, 11], [0, 1, 2, 3, 4, 5, 6, 7, 8, 9, 10, 11, 12]], [(3, [9, 13], false), (5, [9], false), (8, [9], false)], []⟩
  | _ => ⟨[], [], []⟩
def dok42 : Nat → Bool
  | 5 => true
  | 11 => true
  | _ => false
def draw44 : Nat → DrawAnn
  | 4 => ⟨[[], [], [1], [1, 2], [1, 2, 3], [1, 2, 3, 4], [1, 2, 3, 4, 5], [1, 2, 3, 4, 5, 6], [1, 2, 3, 4, 5, 6, 7], [1, 2, 3, 4, 5, 6, 7, 8], [1, 2, 3, 4, 5, 6, 7, 8, 9], [0, 1, 2, 3, 4], [0, 1, 2, 3, 4, 5, 6, 7, 8, 9, 10, 11]], [(0, [2, 11], false), (8, [11, 12], false)], []⟩
  | _ => ⟨[], [], []⟩
def dok44 : Nat → Bool
  | 4 => true
  | _ => false
def draw46 : Nat → DrawAnn
  | 6 => ⟨[[], [], [1], [1, 2], [1, 2, 3], [1, 2, 3, 4], [1, 2, 3, 4, 5], [1, 2, 3, 4, 5, 6], [1, 2, 3, 4, 5, 6, 7], [1, 2, 3, 4, 5, 6, 7, 8], [1, 2, 3, 4, 5, 6, 7, 8, 9], [1, 2, 3, 4, 5, 6, 7, 8, 9, 10], [1, 2, 3, 4, 5, 6, 7, 8, 9, 10, 11], [1, 2, 3, 4, 5, 6, 7, 8, 9, 10, 11, 12], [0, 1, 2, 3, 4, 5, 6], [0, 1, 2, 3, 4, 5, 6, 7, 8, 9, 10, 11, 12, 13, 14]], [(0, [14], false), (4, [14], false), (10, [14], true)], []⟩
  | _ => ⟨[], [], []⟩
def dok46 : Nat → Bool
  | 6 => true
  | _ => false
def draw50 : Nat → DrawAnn
  | 6 => ⟨[[], [], [0, 1], [0, 1, 2], [], [], [5], [4, 5, 6], [4, 5, 6, 7], [0, 1, 2, 3, 4, 5, 6, 7, 8]], [(3, [], true), (8, [], true)], []⟩
  | 11 => ⟨[[], [], [0, 1], [0, 1, 2], [], [], [5], [4, 5, 6], [4, 5, 6, 7], [0, 1, 2, 3, 4, 5, 6, 7, 8]], [(3, [], true), (8, [], true)], []⟩
  | _ => ⟨[], [], []⟩
def dok50 : Nat → Bool
  | 6 => true
  | 11 => true
  | _ => false
def draw57 : Nat → DrawAnn
  | 4 => ⟨[[], [0], [], [2], [2, 3], [0, 1, 2, 3, 4], [], [0, 1, 2, 3, 4, 5, 6]], [(1, [4, 6, 7], false), (3, [4], false)], []⟩
  | 8 => ⟨[[], [], [0, 1], [0, 1, 2], [], [], [0, 1, 2, 3, 4, 5], [0, 1, 2, 3, 4, 5, 6], [0, 1, 2, 3, 4, 5, 6, 7], [0, 1, 2, 3, 4, 5, 6, 7], [], [0, 1, 2, 3, 4, 5, 6, 7, 8, 10], [0, 1, 2, 3, 4, 5, 6, 7, 8, 9, 10, 11]], [(3, [6], false), (5, [6], false)], []⟩
  | _ => ⟨[], [], []⟩
def dok57 : Nat → Bool
  | 4 => true
  | 8 => true
  | _ => false
def draw58 : Nat → DrawAnn
  | 7 => ⟨[[], [], [0, 1], [0, 1, 2], [], [0, 1, 2, 3, 4]], [(3, [5], false), (4, [5], false)], []⟩
  | _ => ⟨[], [], []⟩
def dok58 : Nat → Bool
  | 7 => true
  | _ => false
def draw64 : Nat → DrawAnn
  | 7 => ⟨[[], [0], [0, 1], [0, 1, 2], [], [4], [4, 5], [4, 5, 6], [], [0, 1, 2, 3, 4, 5, 6, 7, 8], [], [10], [10, 11], [10, 11, 12], [], [14], [14, 15], [14, 15, 16], [], [0, 1, 2, 3, 4, 5, 6, 7, 8, 9, 10, 11, 12, 13, 14, 15, 16, 17, 18], [0, 1, 2, 3, 4, 5, 6, 7, 8, 9, 10, 11, 12, 13, 14, 15, 16, 17, 18, 19], [0, 1, 2, 3, 4, 5, 6, 7, 8, 9, 10, 11, 12, 13, 14, 15, 16, 17, 18, 19, 20], [0, 1, 2, 3, 4, 5, 6, 7, 8, 9, 10, 11, 12, 13, 14, 15, 16, 17, 18, 19, 20, 21]], [(1, [9], false), (3, [9], false), (5, [9], false), (7, [9], false), (11, [9, 19], false), (13, [9, 19], false), (15, [9, 19], false), (17, [9, 19], false)], []⟩
  | 9 => ⟨[[], [0], [], [2], [], [4], [2, 3, 4, 5], [2, 3, 4, 5, 6], [], [8], [8, 9], [8, 9, 10], [], [2, 3, 4, 5, 6, 7, 8, 9, 10, 11, 12], [2, 3, 4, 5, 6, 7, 8, 9, 10, 11, 12, 13], [0, 1, 2, 3, 4, 5, 6, 7, 8, 9, 10, 11, 12, 13, 14], [0, 1, 2, 3, 4, 5, 6, 7, 8, 9, 10, 11, 12, 13, 14, 15]], [(1, [13, 16], false), (3, [13], false), (5, [13], false), (7, [13], false), (9, [13], false), (11, [13], false)], []⟩
  | 14 => ⟨[[], [0], [], [2], [2, 3], [2, 3, 4], [], [], [2, 3, 4, 5, 6, 7], [2, 3, 4, 5, 6, 7, 8], [0, 1, 2, 3, 4, 5, 6, 7, 8, 9], [0, 1, 2, 3, 4, 5, 6, 7, 8, 9, 10], [0, 1, 2, 3, 4, 5, 6, 7, 8, 9, 10, 11]], [(1, [8, 10], false), (3, [8], false), (5, [8], false), (6, [8], false)], []⟩
  | _ => ⟨[], [], []⟩
def dok64 : Nat → Bool
  | 7 => true
  | 9 => true
  | 14 => true
  | _ => false
def draw67 : Nat → DrawAnn
  | 2 => ⟨[[], [0], [0, 1], [], [3], [3, 4], [0, 1, 2, 3, 4, 5], [0, 1, 2, 3, 4, 5, 6], [0, 1, 2, 3, 4, 5, 6, 7], [0, 1, 2, 3, 4, 5, 6, 7, 8], [0, 1, 2, 3, 4, 5, 6, 7], [0, 1, 2, 3, 4, 5, 6, 7, 8, 9, 10], [0, 1, 2, 3, 4, 5, 6, 7, 8, 9, 10, 11], [0, 1, 2, 3, 4, 5, 6, 7, 8, 9, 10, 11, 12], [0, 1, 2, 3, 4, 5, 6, 7, 8, 9, 10, 11, 12, 13], [0, 1, 2, 3, 4, 5, 6, 7, 8, 9, 10, 11, 12, 13, 14], [0, 1, 2, 3, 4, 5, 6, 7, 8, 9, 10, 11, 12, 13], [0, 1, 2, 3, 4, 5, 6, 7, 8, 9, 10, 11, 12, 13, 16], [0, 1, 2, 3, 4, 5, 6, 7, 8, 9, 10, 11, 12, 13, 16, 17], [0, 1, 2, 3, 4, 5, 6, 7, 8, 9, 10, 11, 12, 13, 14, 15, 16, 17, 18], [0, 1, 2, 3, 4, 5, 6, 7, 8, 9, 10, 11, 12, 13, 14, 15, 16, 17, 18, 19]], [(1, [5, 18], false), (4, [5], false), (9, [18], false), (15, [18], true), (17, [18], false)], []⟩
  | _ => ⟨[], [], []⟩
def dok67 : Nat → Bool
  | 2 => true
  | _ => false
def draw69 : Nat → DrawAnn
  | 2 => ⟨[[], [], [], [1, 2], [0, 1], [0, 1, 2, 3, 4]], [], []⟩
  | _ => ⟨[], [], []⟩
def dok69 : Nat → Bool
  | 2 => true
  | _ => false
def draw74 : Nat → DrawAnn
  | 25 => ⟨[[], [], [1], [1, 2], [1, 2, 3], [], [5], [5, 6], [0, 1, 2, 3, 4, 5, 6, 7], [0, 1, 2, 3, 4, 5, 6, 7, 8]], [(2, [8], false), (4, [8], false), (6, [8], false)], []⟩
  | _ => ⟨[], [], []⟩
def dok74 : Nat → Bool
  | 25 => true
  | _ => false
def draw76 : Nat → DrawAnn
  | 11 => ⟨[[], [0], [0, 1], [0, 1, 2], [0, 1, 2, 3], [0, 1, 2, 3, 4], [0, 1, 2, 3, 4, 5], [0, 1, 2, 3, 4, 5, 6], [0, 1, 2, 3, 4, 5, 6, 7], [0, 1, 2, 3, 4, 5, 6, 7, 8], [0, 1, 2, 3, 4, 5, 6, 7], [0, 1, 2, 3, 4, 5, 6, 7, 10], [0, 1, 2, 3, 4, 5, 6, 7, 10, 11], [0, 1, 2, 3, 4, 5, 6, 7, 10, 11, 12], [0, 1, 2, 3, 4, 5, 6, 7, 8, 9, 10, 11, 12, 13], [0, 1, 2, 3, 4, 5, 6, 7, 8, 9, 10, 11, 12, 13, 14], [0, 1, 2, 3, 4, 5, 6, 7, 8, 9, 10, 11, 12, 13, 14, 15]], [(4, [], true), (9, [], true), (13, [], true)], []⟩
  | 15 => ⟨[[], [0], [0, 1], [0, 1, 2], [0, 1, 2], [0, 1, 2, 4], [0, 1, 2, 4, 5], [0, 1, 2, 4, 5, 6], [0, 1, 2], [0, 1, 2, 8], [0, 1, 2, 8, 9], [0, 1, 2, 8, 9, 10], [0, 1, 2, 3, 4, 5, 6, 7, 8, 9, 10, 11], [0, 1, 2, 3, 4, 5, 6, 7, 8, 9, 10, 11, 12], [0, 1, 2, 3, 4, 5, 6, 7, 8, 9, 10, 11, 12, 13], [0, 1, 2, 3, 4, 5, 6, 7, 8, 9, 10, 11, 12, 13, 14], [0, 1, 2, 3, 4, 5, 6, 7, 8, 9, 10, 11, 12, 13, 14], [0, 1, 2, 3, 4, 5, 6, 7, 8, 9, 10, 11, 12, 13, 14, 16], [0, 1, 2, 3, 4, 5, 6, 7, 8, 9, 10, 11, 12, 13, 14, 16, 17], [0, 1, 2, 3, 4, 5, 6, 7, 8, 9, 10, 11, 12, 13, 14, 16, 17, 18], [0, 1, 2, 3, 4, 5, 6, 7, 8, 9, 10, 11, 12, 13, 14], [0, 1, 2, 3, 4, 5, 6, 7, 8, 9, 10, 11, 12, 13, 14, 20], [0, 1, 2, 3, 4, 5, 6, 7, 8, 9, 10, 11, 12, 13, 14, 20, 21], [0, 1, 2, 3, 4, 5, 6, 7, 8, 9, 10, 11, 12, 13, 14, 20, 21, 22], [0, 1, 2, 3, 4, 5, 6, 7, 8, 9, 10, 11, 12, 13, 14, 15, 16, 17, 18, 19, 20, 21, 22, 23], [0, 1, 2, 3, 4, 5, 6, 7, 8, 9, 10, 11, 12, 13, 14, 15, 16, 17, 18, 19, 20, 21, 22, 23, 24], [0, 1, 2, 3, 4, 5, 6, 7, 8, 9, 10, 11, 12, 13, 14, 15, 16, 17, 18, 19, 20, 21, 22, 23, 24, 25]], [(5, [12], false), (7, [12], false), (9, [12], false), (11, [12], false), (17, [24], false), (19, [24], false), (21, [24], false), (23, [24], false)], []⟩
  | 17 => ⟨[[], [0], [0, 1], [0, 1, 2], [0, 1, 2, 3], [0, 1, 2, 3, 4], [0, 1, 2, 3, 4, 5], [0, 1, 2, 3, 4, 5, 6], [0, 1, 2, 3, 4, 5, 6, 7], [0, 1, 2, 3, 4, 5, 6, 7, 8], [0, 1, 2, 3, 4, 5, 6, 7, 8, 9], [0, 1, 2, 3, 4, 5, 6, 7, 8, 9, 10], [0, 1, 2, 3, 4, 5, 6, 7, 8, 9, 10, 11], [0, 1, 2, 3, 4, 5, 6, 7, 8, 9, 10, 11, 12], [0, 1, 2, 3, 4, 5, 6, 7, 8, 9, 10, 11, 12], [0, 1, 2, 3, 4, 5, 6, 7, 8, 9, 10, 11, 12, 14], [0, 1, 2, 3, 4, 5, 6, 7, 8, 9, 10, 11, 12], [0, 1, 2, 3, 4, 5, 6, 7, 8, 9, 10, 11, 12, 16], [0, 1, 2, 3, 4, 5, 6, 7, 8, 9, 10, 11, 12, 14, 15, 16, 17], [0, 1, 2, 3, 4, 5, 6, 7, 8, 9, 10, 11, 12, 14, 15, 16, 17, 18], [0, 1, 2, 3, 4, 5, 6, 7, 8, 9, 10, 11, 12], [0, 1, 2, 3, 4, 5, 6, 7, 8, 9, 10, 11, 12, 20], [0, 1, 2, 3, 4, 5, 6, 7, 8, 9, 10, 11, 12, 20, 21], [0, 1, 2, 3, 4, 5, 6, 7, 8, 9, 10, 11, 12, 20, 21, 22], [0, 1, 2, 3, 4, 5, 6, 7, 8, 9, 10, 11, 12, 13, 14, 15, 16, 17, 18, 19, 20, 21, 22, 23], [0, 1, 2, 3, 4, 5, 6, 7, 8, 9, 10, 11, 12, 13, 14, 15, 16, 17, 18, 19, 20, 21, 22, 23, 24], [0, 1, 2, 3, 4, 5, 6, 7, 8, 9, 10, 11, 12, 13, 14, 15, 16, 17, 18, 19, 20, 21, 22, 23, 24, 25]], [(4, [24], false), (8, [24], false), (15, [24], false), (17, [24], false), (19, [24], false), (21, [24], false), (23, [24], false)], []⟩
  | 24 => ⟨[[], [], [1], [1, 2], [1, 2, 3], [], [0, 1, 2, 3, 4, 5], [0, 1, 2, 3, 4, 5, 6]], [(2, [6], false), (4, [6], false), (5, [6], false)], []⟩
  | _ => ⟨[], [], []⟩
def dok76 : Nat → Bool
  | 11 => true
  | 15 => true
  | 17 => true
  | 24 => true
  | _ => false
def draw78 : Nat → DrawAnn
  | 6 => ⟨[[], [0], [0, 1], [0, 1, 2], [], [4], [4, 5], [4, 5, 6], [0, 1, 2, 3, 4, 5, 6, 7], [0, 1, 2, 3, 4, 5, 6, 7, 8], [0, 1, 2, 3, 4, 5, 6, 7, 8, 9], [0, 1, 2, 3, 4, 5, 6, 7, 8, 9, 10], [0, 1, 2, 3, 4, 5, 6, 7, 8, 9, 10, 11], [0, 1, 2, 3, 4, 5, 6, 7, 8, 9, 10, 11, 12], [0, 1, 2, 3, 4, 5, 6, 7, 8, 9], [0, 1, 2, 3, 4, 5, 6, 7, 8, 9, 14], [0, 1, 2, 3, 4, 5, 6, 7, 8, 9, 14, 15], [0, 1, 2, 3, 4, 5, 6, 7, 8, 9, 14, 15, 16], [0, 1, 2, 3, 4, 5, 6, 7, 8, 9, 10, 11, 12, 13, 14, 15, 16, 17], [0, 1, 2, 3, 4, 5, 6, 7, 8, 9, 10, 11, 12, 13, 14, 15, 16, 17, 18], [0, 1, 2, 3, 4, 5, 6, 7, 8, 9, 10, 11, 12, 13, 14, 15, 16, 17, 18, 19]], [(1, [8], false), (3, [8], false), (5, [8], false), (7, [8], false), (11, [18], false), (13, [18], false), (15, [18], false), (17, [18], false)], []⟩
  | 8 => ⟨[[], [0], [], [2], [0, 1, 2, 3], [0, 1, 2, 3, 4], [], [6], [6, 7], [6, 7, 8], [0, 1, 2, 3, 4, 5, 6, 7, 8, 9], [0, 1, 2, 3, 4, 5, 6, 7, 8, 9, 10]], [(1, [10], false), (3, [10], false), (5, [10], false), (7, [10], false), (9, [10], false)], []⟩
  | _ => ⟨[], [], []⟩
def dok78 : Nat → Bool
  | 6 => true
  | 8 => true
  | _ => false
def draw80 : Nat → DrawAnn
  | 11 => ⟨[[], [], [1], [1, 2], [1, 2, 3], [], [1, 2, 3, 4, 5], [0, 1, 2, 3, 4, 5, 6], [0, 1, 2, 3, 4, 5, 6, 7], [0, 1, 2, 3, 4, 5, 6, 7, 8]], [(0, [6, 9], false), (2, [6], false), (4, [6], false)], []⟩
  | 26 => ⟨[[], [0], [], [2], [2, 3], [2, 3, 4], [], [2, 3, 4, 5, 6], [0, 1], [], [0, 1, 2, 3, 4, 5, 6, 7, 8, 9], [0, 1, 2, 3, 4, 5, 6, 7, 8, 9, 10], [0, 1, 2, 3, 4, 5, 6, 7, 8, 9, 10, 11], [0, 1, 2, 3, 4, 5, 6, 7, 8, 9, 10], [0, 1, 2, 3, 4, 5, 6, 7, 8, 9, 10, 13]], [(1, [7, 10], false), (3, [7], false), (5, [7], false)], [⟨12, 28, some 11, 102, 14, 25, some 13, 103⟩]⟩
  | _ => ⟨[], [], []⟩
def dok80 : Nat → Bool
  | 11 => true
  | 26 => true
  | _ => false
def draw81 : Nat → DrawAnn
  | 11 => ⟨[[], [], [1], [1, 2], [1, 2, 3], [], [5], [5, 6], [5, 6, 7], [0, 1, 2, 3, 4, 5, 6, 7, 8]], [(0, [9], false), (2, [9], false), (4, [9], false), (6, [9], false), (8, [9], false)], []⟩
  | 12 => ⟨[[], [], [1], [1, 2], [1, 2, 3], [], [5], [5, 6], [5, 6, 7], [0, 1, 2, 3, 4, 5, 6, 7, 8]], [(0, [9], false), (2, [9], false), (4, [9], false), (6, [9], false), (8, [9], false)], []⟩
  | 14 => ⟨[[], [], [1], [], [3], [1, 2, 3, 4], [1, 2, 3, 4, 5], [], [7], [7, 8], [7, 8, 9], [0, 1, 2, 3, 4, 5, 6, 7, 8, 9, 10]], [(0, [11], false), (2, [11], false), (4, [11], false), (6, [11], false), (8, [11], false), (10, [11], false)], []⟩
  | 5 => ⟨[[], [], [1], [1, 2], [1, 2, 3], [], [0, 1, 2, 3, 4, 5]], [(0, [6], false), (2, [6], false), (4, [6], false), (5, [6], false)], []⟩
  | _ => ⟨[], [], []⟩
def dok81 : Nat → Bool
  | 11 => true
  | 12 => true
  | 14 => true
  | 5 => true
  | _ => false
def draw82 : Nat → DrawAnn
  | 17 => ⟨[[], [0], [0, 1], [0, 1, 2], [0, 1, 2], [0, 1, 2, 4], [0, 1, 2, 3, 4, 5], [0, 1, 2, 3, 4, 5, 6], [0, 1, 2], [0, 1, 2], [0, 1, 2, 8, 9], [0, 1, 2, 8, 9, 10], [0, 1, 2, 3, 4, 5, 6, 7, 8, 9, 10, 11], [0, 1, 2, 3, 4, 5, 6, 7, 8, 9, 10, 11, 12], [0, 1, 2, 3, 4, 5, 6, 7, 8, 9, 10, 11, 12, 13]], [(7, [12], false), (11, [12], false)], []⟩
  | _ => ⟨[], [], []⟩
def dok82 : Nat → Bool
  | 17 => true
  | _ => false
def draw88 : Nat → DrawAnn
  | 16 => ⟨[[], [0], [0, 1], [0, 1, 2], [0, 1, 2, 3], [0, 1, 2], [0, 1, 2, 3, 4, 5], [0, 1, 2, 3, 4, 5, 6], [0, 1, 2], [0, 1, 2, 8], [0, 1, 2, 3, 4, 5, 6, 7, 8, 9], [0, 1, 2, 3, 4, 5, 6, 7, 8, 9, 10]], [(4, [10], false), (7, [10], false), (9, [10], false)], []⟩
  | 18 => ⟨[[], [0], [], [0, 1, 2], [0, 1, 2, 3], [], [5], [0, 1, 2, 3, 4, 5, 6], [0, 1, 2, 3, 4, 5, 6, 7], [0, 1, 2, 3, 4, 5, 6, 7, 8]], [(1, [9], false), (4, [9], false), (6, [9], false)], []⟩
  | _ => ⟨[], [], []⟩
def dok88 : Nat → Bool
  | 16 => true
  | 18 => true
  | _ => false
def draw92 : Nat → DrawAnn
  | 2 => ⟨[[], [0], [0, 1], [0, 1, 2], [0, 1, 2, 3], [0, 1, 2, 3, 4], [0, 1, 2, 3, 4, 5], [0, 1, 2, 3, 4, 5, 6], [0, 1, 2, 3, 4, 5, 6, 7], [0, 1, 2, 3, 4, 5, 6, 7, 8], [0, 1, 2, 3, 4, 5, 6, 7, 8, 9], [0, 1, 2, 3, 4, 5, 6, 7, 8, 9, 10], [0, 1, 2, 3, 4, 5, 6, 7, 8, 9, 10, 11], [0, 1, 2, 3, 4, 5, 6, 7, 8, 9, 10, 11, 12], [0, 1, 2, 3, 4, 5, 6, 7, 8, 9, 10, 11, 12, 13], [0, 1, 2, 3, 4, 5, 6, 7, 8, 9, 10, 11, 12, 13, 14], [0, 1, 2, 3, 4, 5, 6, 7, 8, 9, 10, 11, 12, 13, 14, 15], [0, 1, 2, 3, 4, 5, 6, 7, 8, 9, 10, 11, 12, 13, 14, 15, 16], [0, 1, 2, 3, 4, 5, 6, 7, 8, 9, 10, 11, 12, 13, 14, 15, 16, 17], [0, 1, 2, 3, 4, 5, 6, 7, 8, 9, 10, 11, 12, 13, 14, 15, 16, 17, 18], [0, 1, 2, 3, 4, 5, 6, 7, 8, 9, 10, 11, 12, 13, 14, 15, 16, 17, 18, 19], [0, 1, 2, 3, 4, 5, 6, 7, 8, 9, 10, 11, 12, 13, 14, 15, 16, 17, 18, 19, 20], [0, 1, 2, 3, 4, 5, 6, 7, 8, 9, 10, 11, 12, 13, 14, 15, 16, 17, 18], [0, 1, 2, 3, 4, 5, 6, 7, 8, 9, 10, 11, 12, 13, 14, 15, 16, 17, 18, 22], [0, 1, 2, 3, 4, 5, 6, 7, 8, 9, 10, 11, 12, 13, 14, 15, 16, 17, 18, 22, 23], [0, 1, 2, 3, 4, 5, 6, 7, 8, 9, 10, 11, 12, 13, 14, 15, 16, 17, 18, 22, 23, 24], [0, 1, 2, 3, 4, 5, 6, 7, 8, 9, 10, 11, 12, 13, 14, 15, 16, 17, 18, 22, 23, 24, 25], [0, 1, 2, 3, 4, 5, 6, 7, 8, 9, 10, 11, 12, 13, 14, 15, 16, 17, 18, 19, 20, 21, 22, 23, 24, 25, 26], [0, 1, 2, 3, 4, 5, 6, 7, 8, 9, 10, 11, 12, 13, 14, 15, 16, 17, 18, 19, 20, 21, 22, 23, 24, 25, 26, 27]], [(2, [], true), (10, [], true), (15, [], true), (20, [], true), (23, [], true), (26, [], true)], []⟩
  | _ => ⟨[], [], []⟩
def dok92 : Nat → Bool
  | 2 => true
  | _ => false
def draw96 : Nat → DrawAnn
  | 5 => ⟨[[], [0], [], [], [2, 3], [2, 3, 4], [0, 1, 2, 3, 4, 5], [0, 1, 2, 3, 4, 5, 6], [0, 1, 2, 3, 4, 5, 6, 7]], [(1, [4, 6], false), (3, [4], false)], []⟩
  | 8 => ⟨[[], [0], [], [2], [2, 3], [0, 1, 2, 3, 4], [0, 1, 2, 3, 4, 5], [0, 1, 2, 3, 4, 5, 6]], [(1, [3, 5], false)], []⟩
  | _ => ⟨[], [], []⟩
def dok96 : Nat → Bool
  | 5 => true
  | 8 => true
  | _ => false
def draw98 : Nat → DrawAnn
  | 10 => ⟨[[], [0], [], [2], [0, 1, 2, 3], [0, 1, 2, 3, 4], [], [6], [], [6, 7, 8], [6, 7, 8, 9], [0, 1, 2, 3, 4, 5, 6, 7, 8, 9, 10], [0, 1, 2, 3, 4, 5, 6, 7, 8, 9, 10, 11]], [(1, [11], false), (5, [11], false), (7, [11], false), (10, [11], false)], []⟩
  | _ => ⟨[], [], []⟩
def dok98 : Nat → Bool
  | 10 => true
  | _ => false
def draw100 : Nat → DrawAnn
  | 1 => ⟨[[], [0], [0, 1], [0, 1, 2], [], [0, 1, 2, 3, 4], [0, 1, 2, 3, 4, 5], [0, 1, 2, 3, 4, 5, 6]], [(1, [5], false), (3, [5], false), (4, [5], false)], []⟩
  | _ => ⟨[], [], []⟩
def dok100 : Nat → Bool
  | 1 => true
  | _ => false
def draw106 : Nat → DrawAnn
  | 6 => ⟨[[], [0], [0, 1], [0, 1, 2], [], [4], [4, 5], [4, 5, 6], [], [4, 5, 6, 7, 8], [0, 1, 2, 3], [], [0, 1, 2, 3, 4, 5, 6, 7, 8, 9, 10, 11], [0, 1, 2, 3, 4, 5, 6, 7, 8, 9, 10, 11, 12], [0, 1, 2, 3, 4, 5, 6, 7, 8, 9, 10, 11, 12, 13], [0, 1, 2, 3, 4, 5, 6, 7, 8, 9, 10, 11, 12], [0, 1, 2, 3, 4, 5, 6, 7, 8, 9, 10, 11, 12, 15], [0, 1, 2, 3, 4, 5, 6, 7, 8, 9, 10, 11, 12, 15, 16]], [(3, [9, 12], false), (5, [9], false), (7, [9], false)], [⟨14, 28, some 13, 34, 17, 25, some 16, 36⟩]⟩
  | 9 => ⟨[[], [], [1], [1, 2], [1, 2, 3], [], [5], [5, 6], [1, 2, 3, 4, 5, 6, 7], [0, 1, 2, 3, 4, 5, 6, 7, 8], [0, 1, 2, 3, 4, 5, 6, 7, 8, 9], [0, 1, 2, 3, 4, 5, 6, 7, 8, 9, 10]], [(4, [6, 8], false)], []⟩
  | _ => ⟨[], [], []⟩
def dok106 : Nat → Bool
  | 6 => true
  | 9 => true
  | _ => false
def draw107 : Nat → DrawAnn
  | 4 => ⟨[[], [], [0, 1], [0, 1, 2], [0, 1, 2, 3], [0, 1, 2, 3], [0, 1, 2, 3, 4, 5], [0, 1, 2, 3, 4, 5, 6], [0, 1, 2, 3], [0, 1, 2, 3], [0, 1, 2, 3, 9], [0, 1, 2, 3, 8, 9, 10], [0, 1, 2, 3, 8, 9, 10, 11], [0, 1, 2, 3, 4, 5, 6, 7, 8, 9, 10, 11, 12], [0, 1, 2, 3, 4, 5, 6, 7, 8, 9, 10, 11, 12, 13]], [(7, [13], false), (12, [13], false)], []⟩
  | 6 => ⟨[[], [], [], [], [3], [], [], [6], [5, 6, 7], [5, 6, 7, 8], [], [], [10, 11], [10, 11, 12], [0, 1, 5, 6, 7, 8, 9, 10, 11, 12, 13], [0, 1, 5, 6, 7, 8, 9, 10, 11, 12, 13, 14], [0, 1, 2, 3, 4, 5, 6, 7, 8, 9, 10, 11, 12, 13, 14, 15], [0, 1, 2, 3, 4, 5, 6, 7, 8, 9, 10, 11, 12, 13, 14, 15, 16]], [(9, [15], false), (13, [15], false)], []⟩
  | _ => ⟨[], [], []⟩
def dok107 : Nat → Bool
  | 4 => true
  | 6 => true
  | _ => false
def draw108 : Nat → DrawAnn
  | 10 => ⟨[[], [], [], [], [], [3, 4], [], [], [], [7, 8], [6, 7, 8, 9], [6, 7, 8, 9, 10], [], [], [12, 13], [12, 13, 14], [0, 1, 6, 7, 8, 9, 10, 11, 12, 13, 14, 15], [0, 1, 6, 7, 8, 9, 10, 11, 12, 13, 14, 15, 16], [0, 1, 2, 3, 4, 5, 6, 7, 8, 9, 10, 11, 12, 13, 14, 15, 16, 17], [0, 1, 2, 3, 4, 5, 6, 7, 8, 9, 10, 11, 12, 13, 14, 15, 16, 17, 18]], [(11, [17], false), (15, [17], false)], []⟩
  | _ => ⟨[], [], []⟩
def dok108 : Nat → Bool
  | 10 => true
  | _ => false
def draw109 : Nat → DrawAnn
  | 10 => ⟨[[], [], [], [], [], [3, 4], [], [], [], [7, 8], [6, 7, 8, 9], [6, 7, 8, 9, 10], [], [], [12, 13], [12, 13, 14], [0, 1, 6, 7, 8, 9, 10, 11, 12, 13, 14, 15], [0, 1, 6, 7, 8, 9, 10, 11, 12, 13, 14, 15, 16], [0, 1, 2, 3, 4, 5, 6, 7, 8, 9, 10, 11, 12, 13, 14, 15, 16, 17], [0, 1, 2, 3, 4, 5, 6, 7, 8, 9, 10, 11, 12, 13, 14, 15, 16, 17, 18]], [(11, [17], false), (15, [17], false)], []⟩
  | _ => ⟨[], [], []⟩
def dok109 : Nat → Bool
  | 10 => true
  | _ => false
def draw111 : Nat → DrawAnn
  | 3 => ⟨[[], [], [], [], [], [], [4, 5], [4, 5, 6], [], [], [8, 9], [8, 9, 10], [0, 1, 4, 5, 6, 7, 8, 9, 10, 11], [0, 1, 4, 5, 6, 7, 8, 9, 10, 11, 12], [0, 1, 2, 3, 4, 5, 6, 7, 8, 9, 10, 11, 12, 13], [0, 1, 2, 3, 4, 5, 6, 7, 8, 9, 10, 11, 12, 13, 14]], [(7, [13], false), (11, [13], false)], []⟩
  | _ => ⟨[], [], []⟩
def dok111 : Nat → Bool
  | 3 => true
  | _ => false
def draw112 : Nat → DrawAnn
  | 5 => ⟨[[], [], [0, 1], [0, 1, 2], [0, 1, 2, 3], [0, 1, 2, 3], [0, 1, 2, 3, 4, 5], [0, 1, 2, 3, 4, 5, 6], [0, 1, 2, 3], [0, 1, 2, 3], [0, 1, 2, 3, 9], [0, 1, 2, 3, 8, 9, 10], [0, 1, 2, 3, 8, 9, 10, 11], [0, 1, 2, 3, 4, 5, 6, 7, 8, 9, 10, 11, 12], [0, 1, 2, 3, 4, 5, 6, 7, 8, 9, 10, 11, 12, 13], [0, 1, 2, 3, 4, 5, 6, 7, 8, 9, 10, 11, 12, 13, 14]], [(7, [13], false), (12, [13], false)], []⟩
  | 11 => ⟨[[], [], [], [], [3], [], [], [6], [5, 6, 7], [5, 6, 7, 8], [], [], [10, 11], [10, 11, 12], [0, 1, 5, 6, 7, 8, 9, 10, 11, 12, 13], [0, 1, 5, 6, 7, 8, 9, 10, 11, 12, 13, 14], [0, 1, 2, 3, 4, 5, 6, 7, 8, 9, 10, 11, 12, 13, 14, 15], [0, 1, 2, 3, 4, 5, 6, 7, 8, 9, 10, 11, 12, 13, 14, 15, 16]], [(9, [15], false), (13, [15], false)], []⟩
  | 16 => ⟨[[], [], [0, 1], [0, 1, 2], [], [], [5], [4, 5, 6], [4, 5, 6, 7], [0, 1, 2, 3, 4, 5, 6, 7, 8], [0, 1, 2, 3, 4, 5, 6, 7, 8, 9]], [(3, [9], false), (8, [9], false)], []⟩
  | 17 => ⟨[[], [], [], [], [3], [], [], [6], [5, 6, 7], [5, 6, 7, 8], [], [], [10, 11], [10, 11, 12], [0, 1, 5, 6, 7, 8, 9, 10, 11, 12, 13], [0, 1, 5, 6, 7, 8, 9, 10, 11, 12, 13, 14], [0, 1, 2, 3, 4, 5, 6, 7, 8, 9, 10, 11, 12, 13, 14, 15], [0, 1, 2, 3, 4, 5, 6, 7, 8, 9, 10, 11, 12, 13, 14, 15, 16]], [(9, [15], false), (13, [15], false)], []⟩
  | 22 => ⟨[[], [], [0, 1], [0, 1, 2], [], [], [5], [4, 5, 6], [4, 5, 6, 7], [0, 1, 2, 3, 4, 5, 6, 7, 8], [0, 1, 2, 3, 4, 5, 6, 7, 8, 9]], [(3, [9], false), (8, [9], false)], []⟩
  | 23 => ⟨[[], [], [], [], [3], [], [], [6], [5, 6, 7], [5, 6, 7, 8], [], [], [10, 11], [10, 11, 12], [0, 1, 5, 6, 7, 8, 9, 10, 11, 12, 13], [0, 1, 5, 6, 7, 8, 9, 10, 11, 12, 13, 14], [0, 1, 2, 3, 4, 5, 6, 7, 8, 9, 10, 11, 12, 13, 14, 15], [0, 1, 2, 3, 4, 5, 6, 7, 8, 9, 10, 11, 12, 13, 14, 15, 16]], [(9, [15], false), (13, [15], false)], []⟩
  | _ => ⟨[], [], []⟩
def dok112 : Nat → Bool
  | 5 => true
  | 11 => true
  | 16 => true
  | 17 => true
  | 22 => true
  | 23 => true
  | _ => false
def draw114 : Nat → DrawAnn
  | 1 => ⟨[[], [], [], [], [], [], [4, 5], [4, 5, 6], [], [], [8, 9], [8, 9, 10], [0, 1, 4, 5, 6, 7, 8, 9, 10, 11], [0, 1, 4, 5, 6, 7, 8, 9, 10, 11, 12], [0, 1, 2, 3, 4, 5, 6, 7, 8, 9, 10, 11, 12, 13], [0, 1, 2, 3, 4, 5, 6, 7, 8, 9, 10, 11, 12, 13, 14]], [(7, [13], false), (11, [13], false)], []⟩
  | 3 => ⟨[[], [], [0, 1], [0, 1, 2], [0, 1, 2, 3], [0, 1, 2, 3], [0, 1, 2, 3, 4, 5], [0, 1, 2, 3, 4, 5, 6], [0, 1, 2, 3], [0, 1, 2, 3], [0, 1, 2, 3, 8, 9], [0, 1, 2, 3, 8, 9, 10], [0, 1, 2, 3, 4, 5, 6, 7, 8, 9, 10, 11], [0, 1, 2, 3, 4, 5, 6, 7, 8, 9, 10, 11, 12], [0, 1, 2, 3, 4, 5, 6, 7, 8, 9, 10, 11, 12, 13]], [(7, [12], false), (11, [12], false)], []⟩
  | 5 => ⟨[[], [], [0, 1], [0, 1, 2], [0, 1, 2, 3], [0, 1, 2, 3], [0, 1, 2, 3, 4, 5], [0, 1, 2, 3, 4, 5, 6], [0, 1, 2, 3], [0, 1, 2, 3], [0, 1, 2, 3, 8, 9], [0, 1, 2, 3, 8, 9, 10], [0, 1, 2, 3, 4, 5, 6, 7, 8, 9, 10, 11], [0, 1, 2, 3, 4, 5, 6, 7, 8, 9, 10, 11, 12]], [(7, [12], false), (11, [12], false)], []⟩
  | 8 => ⟨[[], [], [], [], [], [], [4, 5], [4, 5, 6], [], [], [8, 9], [8, 9, 10], [0, 1, 4, 5, 6, 7, 8, 9, 10, 11], [0, 1, 4, 5, 6, 7, 8, 9, 10, 11, 12], [0, 1, 2, 3, 4, 5, 6, 7, 8, 9, 10, 11, 12, 13], [0, 1, 2, 3, 4, 5, 6, 7, 8, 9, 10, 11, 12, 13, 14]], [(7, [13], false), (11, [13], false)], []⟩
  | _ => ⟨[], [], []⟩
def dok114 : Nat → Bool
  | 1 => true
  | 3 => true
  | 5 => true
  | 8 => true
  | _ => false
def draw115 : Nat → DrawAnn
  | 1 => ⟨[[], [], [], [], [], [], [4, 5], [4, 5, 6], [], [], [8, 9], [8, 9, 10], [0, 1, 4, 5, 6, 7, 8, 9, 10, 11], [0, 1, 4, 5, 6, 7, 8, 9, 10, 11, 12], [0, 1, 2, 3, 4, 5, 6, 7, 8, 9, 10, 11, 12, 13], [0, 1, 2, 3, 4, 5, 6, 7, 8, 9, 10, 11, 12, 13, 14]], [(7, [13], false), (11, [13], false)], []⟩
  | 3 => ⟨[[], [], [0, 1], [0, 1, 2], [0, 1, 2, 3], [0, 1, 2, 3], [0, 1, 2, 3, 4, 5], [0, 1, 2, 3, 4, 5, 6], [0, 1, 2, 3], [0, 1, 2, 3], [0, 1, 2, 3, 8, 9], [0, 1, 2, 3, 8, 9, 10], [0, 1, 2, 3, 4, 5, 6, 7, 8, 9, 10, 11], [0, 1, 2, 3, 4, 5, 6, 7, 8, 9, 10, 11, 12]], [(7, [12], false), (11, [12], false)], []⟩
  | 5 => ⟨[[], [], [0, 1], [0, 1, 2], [0, 1, 2, 3], [0, 1, 2, 3], [0, 1, 2, 3, 4, 5], [0, 1, 2, 3, 4, 5, 6], [0, 1, 2, 3], [0, 1, 2, 3], [0, 1, 2, 3, 8, 9], [0, 1, 2, 3, 8, 9, 10], [0, 1, 2, 3, 4, 5, 6, 7, 8, 9, 10, 11], [0, 1, 2, 3, 4, 5, 6, 7, 8, 9, 10, 11, 12], [0, 1, 2, 3, 4, 5, 6, 7, 8, 9, 10, 11, 12, 13]], [(7, [12], false), (11, [12], false)], []⟩
  | 8 => ⟨[[], [], [], [], [], [], [4, 5], [4, 5, 6], [], [], [8, 9], [8, 9, 10], [0, 1, 4, 5, 6, 7, 8, 9, 10, 11], [0, 1, 4, 5, 6, 7, 8, 9, 10, 11, 12], [0, 1, 2, 3, 4, 5, 6, 7, 8, 9, 10, 11, 12, 13], [0, 1, 2, 3, 4, 5, 6, 7, 8, 9, 10, 11, 12, 13, 14]], [(7, [13], false), (11, [13], false)], []⟩
  | 10 => ⟨[[], [], [], [], [], [], [4, 5], [4, 5, 6], [], [], [8, 9], [8, 9, 10], [0, 1, 4, 5, 6, 7, 8, 9, 10, 11], [0, 1, 4, 5, 6, 7, 8, 9, 10, 11, 12], [0, 1, 2, 3, 4, 5, 6, 7, 8, 9, 10, 11, 12, 13], [0, 1, 2, 3, 4, 5, 6, 7, 8, 9, 10, 11, 12, 13, 14]], [(7, [13], false), (11, [13], false)], []⟩
  | 13 => ⟨[[], [], [0, 1], [0, 1, 2], [0, 1, 2, 3], [0, 1, 2, 3], [0, 1, 2, 3, 4, 5], [0, 1, 2, 3, 4, 5, 6], [0, 1, 2, 3], [0, 1, 2, 3], [0, 1, 2, 3, 8, 9], [0, 1, 2, 3, 8, 9, 10], [0, 1, 2, 3, 4, 5, 6, 7, 8, 9, 10, 11], [0, 1, 2, 3, 4, 5, 6, 7, 8, 9, 10, 11, 12]], [(7, [12], false), (11, [12], false)], []⟩
  | 15 => ⟨[[], [], [0, 1], [0, 1, 2], [0, 1, 2, 3], [0, 1, 2, 3], [0, 1, 2, 3, 4, 5], [0, 1, 2, 3, 4, 5, 6], [0, 1, 2, 3], [0, 1, 2, 3], [0, 1, 2, 3, 8, 9], [0, 1, 2, 3, 8, 9, 10], [0, 1, 2, 3, 4, 5, 6, 7, 8, 9, 10, 11], [0, 1, 2, 3, 4, 5, 6, 7, 8, 9, 10, 11, 12], [0, 1, 2, 3, 4, 5, 6, 7, 8, 9, 10, 11, 12, 13]], [(7, [12], false), (11, [12], false)], []⟩
  | 18 => ⟨[[], [], [], [], [], [], [4, 5], [4, 5, 6], [], [], [8, 9], [8, 9, 10], [0, 1, 4, 5, 6, 7, 8, 9, 10, 11], [0, 1, 4, 5, 6, 7, 8, 9, 10, 11, 12], [0, 1, 2, 3, 4, 5, 6, 7, 8, 9, 10, 11, 12, 13], [0, 1, 2, 3, 4, 5, 6, 7, 8, 9, 10, 11, 12, 13, 14]], [(7, [13], false), (11, [13], false)], []⟩
  | 21 => ⟨[[], [], [], [], [], [], [4, 5], [4, 5, 6], [], [], [8, 9], [8, 9, 10], [0, 1, 4, 5, 6, 7, 8, 9, 10, 11], [0, 1, 4, 5, 6, 7, 8, 9, 10, 11, 12], [0, 1, 2, 3, 4, 5, 6, 7, 8, 9, 10, 11, 12, 13], [0, 1, 2, 3, 4, 5, 6, 7, 8, 9, 10, 11, 12, 13, 14]], [(7, [13], false), (11, [13], false)], []⟩
  | _ => ⟨[], [], []⟩
def dok115 : Nat → Bool
  | 1 => true
  | 3 => true
  | 5 => true
  | 8 => true
  | 10 => true
  | 13 => true
  | 15 => true
  | 18 => true
  | 21 => true
  | _ => false
def draw121 : Nat → DrawAnn
  | 6 => ⟨[[], [], [], [1, 2], [0, 1], [0, 1, 2, 3, 4]], [], []⟩
  | _ => ⟨[], [], []⟩
def dok121 : Nat → Bool
  | 6 => true
  | _ => false
def draw132 : Nat → DrawAnn
  | 3 => ⟨[[], [0], [], [0, 1, 2], [0, 1, 2, 3], [0, 1, 2, 3, 4], [0, 1, 2, 3, 4], [0, 1, 2, 3, 4], [0, 1, 2, 3, 4, 6, 7], [0, 1, 2, 3, 4, 5, 6, 7, 8], [0, 1, 2, 3, 4, 5, 6, 7, 8, 9], [0, 1, 2, 3, 4], [0, 1, 2, 3, 4], [0, 1, 2, 3, 4], [0, 1, 2, 3, 4, 12, 13], [0, 1, 2, 3, 4, 12, 13, 14], [0, 1, 2, 3, 4, 11, 12, 13, 14, 15], [0, 1, 2, 3, 4, 11, 12, 13, 14, 15, 16], [0, 1, 2, 3, 4, 5, 6, 7, 8, 9, 10, 11, 12, 13, 14, 15, 16, 17], [0, 1, 2, 3, 4, 5, 6, 7, 8, 9, 10, 11, 12, 13, 14, 15, 16, 17, 18]], [(10, [18], false), (17, [18], false)], []⟩
  | 5 => ⟨[[], [], [], [1, 2], [0, 1, 2, 3], [0, 1, 2, 3, 4], [], [], [], [7, 8], [6, 7, 8, 9], [6, 7, 8, 9, 10], [0, 1, 2, 3, 4, 5, 6, 7, 8, 9, 10, 11], [0, 1, 2, 3, 4, 5, 6, 7, 8, 9, 10, 11, 12]], [(5, [12], false), (11, [12], false)], []⟩
  | 6 => ⟨[[], [], [], [1, 2], [], [], [], [5, 6], [], [], [], [9, 10], [8, 9, 10, 11], [8, 9, 10, 11, 12], [], [], [], [15, 16], [14, 15, 16, 17], [14, 15, 16, 17, 18], [0, 1, 2, 3, 8, 9, 10, 11, 12, 13, 14, 15, 16, 17, 18, 19], [0, 1, 2, 3, 8, 9, 10, 11, 12, 13, 14, 15, 16, 17, 18, 19, 20], [0, 1, 2, 3, 4, 5, 6, 7, 8, 9, 10, 11, 12, 13, 14, 15, 16, 17, 18, 19, 20, 21], [0, 1, 2, 3, 4, 5, 6, 7, 8, 9, 10, 11, 12, 13, 14, 15, 16, 17, 18, 19, 20, 21, 22]], [(13, [21], false), (19, [21], false)], []⟩
  | _ => ⟨[], [], []⟩
def dok132 : Nat → Bool
  | 3 => true
  | 5 => true
  | 6 => true
  | _ => false
def draw134 : Nat → DrawAnn
  | 1 => ⟨[[], [0], [0, 1], [], [3], [3, 4], [3, 4, 5], [0, 1, 2, 3, 4, 5, 6], [0, 1, 2, 3, 4, 5, 6, 7], [0, 1, 2, 3, 4, 5, 6, 7, 8]], [(2, [9], false), (5, [9], false)], []⟩
  | 2 => ⟨[[], [0], [0, 1], [], [3], [3, 4], [3, 4, 5], [0, 1, 2, 3, 4, 5, 6], [0, 1, 2, 3, 4, 5, 6, 7], [0, 1, 2, 3, 4, 5, 6, 7, 8]], [(2, [9], false), (5, [9], false)], []⟩
  | 3 => ⟨[[], [0], [0, 1], [], [3], [3, 4], [3, 4, 5], [0, 1, 2, 3, 4, 5, 6], [0, 1, 2, 3, 4, 5, 6, 7], [0, 1, 2, 3, 4, 5, 6, 7, 8]], [(2, [9], false), (5, [9], false)], []⟩
  | _ => ⟨[], [], []⟩
def dok134 : Nat → Bool
  | 1 => true
  | 2 => true
  | 3 => true
  | _ => false
def draw138 : Nat → DrawAnn
  | 17 => ⟨[[], [0], [0, 1], [0, 1, 2], [0, 1, 2], [0, 1, 2], [0, 1, 2, 5], [0, 1, 2, 4, 5, 6], [0, 1, 2, 4, 5, 6, 7], [0, 1, 2], [0, 1, 2], [0, 1, 2, 9, 10], [0, 1, 2, 9, 10, 11], [0, 1, 2, 3, 4, 5, 6, 7, 8, 9, 10, 11, 12], [0, 1, 2, 3, 4, 5, 6, 7, 8, 9, 10, 11, 12, 13], [0, 1, 2, 3, 4, 5, 6, 7, 8, 9, 10, 11, 12, 13, 14], [0, 1, 2, 3, 4, 5, 6, 7, 8, 9, 10, 11, 12, 13, 14, 15]], [(8, [13], false), (12, [13], false)], []⟩
  | _ => ⟨[], [], []⟩
def dok138 : Nat → Bool
  | 17 => true
  | _ => false
def draw141 : Nat → DrawAnn
  | 7 => ⟨[[], [], [1], [], [], [4], [], [6], [6, 7], [], [9], [0, 1, 2, 6, 7, 8], [0, 1, 2, 6, 7, 8, 11], [0, 1, 2, 3, 4, 5, 6, 7, 8, 9, 10, 11, 12], [0, 1, 2, 3, 4, 5, 6, 7, 8, 9, 10, 11, 12, 13]], [], []⟩
  | 8 => ⟨[[], [], [1], [], [], [4], [], [6], [6, 7], [], [9], [0, 1, 2, 6, 7, 8], [0, 1, 2, 6, 7, 8, 11], [0, 1, 2, 3, 4, 5, 6, 7, 8, 9, 10, 11, 12], [0, 1, 2, 3, 4, 5, 6, 7, 8, 9, 10, 11, 12, 13]], [], []⟩
  | 9 => ⟨[[], [], [1], [], [], [4], [], [6], [6, 7], [], [9], [0, 1, 2, 6, 7, 8], [0, 1, 2, 6, 7, 8, 11], [0, 1, 2, 3, 4, 5, 6, 7, 8, 9, 10, 11, 12], [0, 1, 2, 3, 4, 5, 6, 7, 8, 9, 10, 11, 12, 13]], [], []⟩
  | 10 => ⟨[[], [], [1], [], [], [4], [], [6], [6, 7], [], [9], [0, 1, 2, 6, 7, 8], [0, 1, 2, 6, 7, 8, 11], [0, 1, 2, 3, 4, 5, 6, 7, 8, 9, 10, 11, 12], [0, 1, 2, 3, 4, 5, 6, 7, 8, 9, 10, 11, 12, 13]], [], []⟩
  | 17 => ⟨[[], [], [1], [], [], [4], [], [6], [6, 7], [], [9], [0, 1, 2, 6, 7, 8], [0, 1, 2, 6, 7, 8, 11], [0, 1, 2, 3, 4, 5, 6, 7, 8, 9, 10, 11, 12], [0, 1, 2, 3, 4, 5, 6, 7, 8, 9, 10, 11, 12, 13]], [], []⟩
  | 18 => ⟨[[], [], [1], [], [], [4], [], [6], [6, 7], [], [9], [0, 1, 2, 6, 7, 8], [0, 1, 2, 6, 7, 8, 11], [0, 1, 2, 3, 4, 5, 6, 7, 8, 9, 10, 11, 12], [0, 1, 2, 3, 4, 5, 6, 7, 8, 9, 10, 11, 12, 13]], [], []⟩
  | 23 => ⟨[[], [], [1], [], [], [4], [], [6], [6, 7], [], [9], [0, 1, 2, 6, 7, 8], [0, 1, 2, 6, 7, 8, 11], [0, 1, 2, 3, 4, 5, 6, 7, 8, 9, 10, 11, 12], [0, 1, 2, 3, 4, 5, 6, 7, 8, 9, 10, 11, 12, 13]], [], []⟩
  | _ => ⟨[], [], []⟩
def dok141 : Nat → Bool
  | 7 => true
  | 8 => true
  | 9 => true
  | 10 => true
  | 17 => true
  | 18 => true
  | 23 => true
  | _ => false
def draw148 : Nat → DrawAnn
  | 1 => ⟨[[], [], [0, 1], [0, 1, 2], [], [], [4, 5], [4, 5, 6], [0, 1, 2, 3, 4, 5, 6, 7]], [(3, [8], false), (7, [8], false)], []⟩
  | _ => ⟨[], [], []⟩
def dok148 : Nat → Bool
  | 1 => true
  | _ => false
def draw149 : Nat → DrawAnn
  | 4 => ⟨[[], [], [0, 1], [0, 1, 2], [0, 1, 2, 3], [0, 1, 2, 3], [0, 1, 2, 3], [0, 1, 2, 3, 5, 6], [0, 1, 2, 3, 5, 6, 7], [0, 1, 2, 3], [0, 1, 2, 3], [0, 1, 2, 3, 10], [0, 1, 2, 3, 9, 10, 11], [0, 1, 2, 3, 9, 10, 11, 12], [0, 1, 2, 3, 4, 5, 6, 7, 8, 9, 10, 11, 12, 13], [0, 1, 2, 3, 4, 5, 6, 7, 8, 9, 10, 11, 12, 13, 14], [0, 1, 2, 3, 4, 5, 6, 7, 8, 9, 10, 11, 12, 13, 14, 15]], [(8, [14], false), (13, [14], false)], []⟩
  | 6 => ⟨[[], [], [], [], [3], [], [], [6], [5, 6, 7], [5, 6, 7, 8], [], [], [10, 11], [10, 11, 12], [0, 1, 5, 6, 7, 8, 9, 10, 11, 12, 13], [0, 1, 5, 6, 7, 8, 9, 10, 11, 12, 13, 14], [0, 1, 2, 3, 4, 5, 6, 7, 8, 9, 10, 11, 12, 13, 14, 15], [0, 1, 2, 3, 4, 5, 6, 7, 8, 9, 10, 11, 12, 13, 14, 15, 16]], [(9, [15], false), (13, [15], false)], []⟩
  | _ => ⟨[], [], []⟩
def dok149 : Nat → Bool
  | 4 => true
  | 6 => true
  | _ => false
def draw150 : Nat → DrawAnn
  | 10 => ⟨[[], [], [], [], [], [3, 4], [], [], [], [7, 8], [6, 7, 8, 9], [6, 7, 8, 9, 10], [], [], [12, 13], [12, 13, 14], [0, 1, 6, 7, 8, 9, 10, 11, 12, 13, 14, 15], [0, 1, 6, 7, 8, 9, 10, 11, 12, 13, 14, 15, 16], [0, 1, 2, 3, 4, 5, 6, 7, 8, 9, 10, 11, 12, 13, 14, 15, 16, 17], [0, 1, 2, 3, 4, 5, 6, 7, 8, 9, 10, 11, 12, 13, 14, 15, 16, 17, 18]], [(11, [17], false), (15, [17], false)], []⟩
  | _ => ⟨[], [], []⟩
def dok150 : Nat → Bool
  | 10 => true
  | _ => false
def draw151 : Nat → DrawAnn
  | 10 => ⟨[[], [], [], [], [], [3, 4], [], [], [], [7, 8], [6, 7, 8, 9], [6, 7, 8, 9, 10], [], [], [12, 13], [12, 13, 14], [0, 1, 6, 7, 8, 9, 10, 11, 12, 13, 14, 15], [0, 1, 6, 7, 8, 9, 10, 11, 12, 13, 14, 15, 16], [0, 1, 2, 3, 4, 5, 6, 7, 8, 9, 10, 11, 12, 13, 14, 15, 16, 17], [0, 1, 2, 3, 4, 5, 6, 7, 8, 9, 10, 11, 12, 13, 14, 15, 16, 17, 18]], [(11, [17], false), (15, [17], false)], []⟩
  | _ => ⟨[], [], []⟩
def dok151 : Nat → Bool
  | 10 => true
  | _ => false
def draw153 : Nat → DrawAnn
  | 3 => ⟨[[], [], [], [], [], [], [4, 5], [4, 5, 6], [], [], [8, 9], [8, 9, 10], [0, 1, 4, 5, 6, 7, 8, 9, 10, 11], [0, 1, 4, 5, 6, 7, 8, 9, 10, 11, 12], [0, 1, 2, 3, 4, 5, 6, 7, 8, 9, 10, 11, 12, 13], [0, 1, 2, 3, 4, 5, 6, 7, 8, 9, 10, 11, 12, 13, 14]], [(7, [13], false), (11, [13], false)], []⟩
  | _ => ⟨[], [], []⟩
def dok153 : Nat → Bool
  | 3 => true
  | _ => false
def draw154 : Nat → DrawAnn
  | 5 => ⟨[[], [], [0, 1], [0, 1, 2], [0, 1, 2, 3], [0, 1, 2, 3], [0, 1, 2, 3], [0, 1, 2, 3, 5, 6], [0, 1, 2, 3, 5, 6, 7], [0, 1, 2, 3], [0, 1, 2, 3], [0, 1, 2, 3, 10], [0, 1, 2, 3, 9, 10, 11], [0, 1, 2, 3, 9, 10, 11, 12], [0, 1, 2, 3, 4, 5, 6, 7, 8, 9, 10, 11, 12, 13], [0, 1, 2, 3, 4, 5, 6, 7, 8, 9, 10, 11, 12, 13, 14], [0, 1, 2, 3, 4, 5, 6, 7, 8, 9, 10, 11, 12, 13, 14, 15], [0, 1, 2, 3, 4, 5, 6, 7, 8, 9, 10, 11, 12, 13, 14, 15, 16]], [(8, [14], false), (13, [14], false)], []⟩
  | 11 => ⟨[[], [], [], [], [3], [], [], [6], [5, 6, 7], [5, 6, 7, 8], [], [], [10, 11], [10, 11, 12], [0, 1, 5, 6, 7, 8, 9, 10, 11, 12, 13], [0, 1, 5, 6, 7, 8, 9, 10, 11, 12, 13, 14], [0, 1, 2, 3, 4, 5, 6, 7, 8, 9, 10, 11, 12, 13, 14, 15], [0, 1, 2, 3, 4, 5, 6, 7, 8, 9, 10, 11, 12, 13, 14, 15, 16]], [(9, [15], false), (13, [15], false)], []⟩
  | 16 => ⟨[[], [], [], [1, 2], [1, 2, 3], [], [], [6], [5, 6, 7], [5, 6, 7, 8], [0, 1, 2, 3, 4, 5, 6, 7, 8, 9], [0, 1, 2, 3, 4, 5, 6, 7, 8, 9, 10], [0, 1, 2, 3, 4, 5, 6, 7, 8, 9, 10, 11]], [(4, [10], false), (9, [10], false)], []⟩
  | 17 => ⟨[[], [], [], [], [3], [], [], [6], [5, 6, 7], [5, 6, 7, 8], [], [], [10, 11], [10, 11, 12], [0, 1, 5, 6, 7, 8, 9, 10, 11, 12, 13], [0, 1, 5, 6, 7, 8, 9, 10, 11, 12, 13, 14], [0, 1, 2, 3, 4, 5, 6, 7, 8, 9, 10, 11, 12, 13, 14, 15], [0, 1, 2, 3, 4, 5, 6, 7, 8, 9, 10, 11, 12, 13, 14, 15, 16]], [(9, [15], false), (13, [15], false)], []⟩
  | 22 => ⟨[[], [], [], [1, 2], [1, 2, 3], [], [], [6], [5, 6, 7], [5, 6, 7, 8], [0, 1, 2, 3, 4, 5, 6, 7, 8, 9], [0, 1, 2, 3, 4, 5, 6, 7, 8, 9, 10], [0, 1, 2, 3, 4, 5, 6, 7, 8, 9, 10, 11]], [(4, [10], false), (9, [10], false)], []⟩
  | 23 => ⟨[[], [], [], [], [3], [], [], [6], [5, 6, 7], [5, 6, 7, 8], [], [], [10, 11], [10, 11, 12], [0, 1, 5, 6, 7, 8, 9, 10, 11, 12, 13], [0, 1, 5, 6, 7, 8, 9, 10, 11, 12, 13, 14], [0, 1, 2, 3, 4, 5, 6, 7, 8, 9, 10, 11, 12, 13, 14, 15], [0, 1, 2, 3, 4, 5, 6, 7, 8, 9, 10, 11, 12, 13, 14, 15, 16]], [(9, [15], false), (13, [15], false)], []⟩
  | _ => ⟨[], [], []⟩
def dok154 : Nat → Bool
  | 5 => true
  | 11 => true
  | 16 => true
  | 17 => true
  | 22 => true
  | 23 => true
  | _ => false
def draw155 : Nat → DrawAnn
  | 1 => ⟨[[], [], [], [], [], [], [4, 5], [4, 5, 6], [], [], [8, 9], [8, 9, 10], [0, 1, 4, 5, 6, 7, 8, 9, 10, 11], [0, 1, 4, 5, 6, 7, 8, 9, 10, 11, 12], [0, 1, 2, 3, 4, 5, 6, 7, 8, 9, 10, 11, 12, 13], [0, 1, 2, 3, 4, 5, 6, 7, 8, 9, 10, 11, 12, 13, 14]], [(7, [13], false), (11, [13], false)], []⟩
  | 3 => ⟨[[], [], [0, 1], [0, 1, 2], [0, 1, 2, 3], [0, 1, 2, 3], [0, 1, 2, 3], [0, 1, 2, 3, 5, 6], [0, 1, 2, 3, 5, 6, 7], [0, 1, 2, 3], [0, 1, 2, 3], [0, 1, 2, 3, 9, 10], [0, 1, 2, 3, 9, 10, 11], [0, 1, 2, 3, 4, 5, 6, 7, 8, 9, 10, 11, 12], [0, 1, 2, 3, 4, 5, 6, 7, 8, 9, 10, 11, 12, 13], [0, 1, 2, 3, 4, 5, 6, 7, 8, 9, 10, 11, 12, 13, 14], [0, 1, 2, 3, 4, 5, 6, 7, 8, 9, 10, 11, 12, 13, 14, 15]], [(8, [13], false), (12, [13], false)], []⟩
  | 5 => ⟨[[], [], [0, 1], [0, 1, 2], [0, 1, 2, 3], [0, 1, 2, 3], [0, 1, 2, 3], [0, 1, 2, 3, 5, 6], [0, 1, 2, 3, 5, 6, 7], [0, 1, 2, 3], [0, 1, 2, 3], [0, 1, 2, 3, 9, 10], [0, 1, 2, 3, 9, 10, 11], [0, 1, 2, 3, 4, 5, 6, 7, 8, 9, 10, 11, 12], [0, 1, 2, 3, 4, 5, 6, 7, 8, 9, 10, 11, 12, 13], [0, 1, 2, 3, 4, 5, 6, 7, 8, 9, 10, 11, 12, 13, 14]], [(8, [13], false), (12, [13], false)], []⟩
  | 8 => ⟨[[], [], [], [], [], [], [4, 5], [4, 5, 6], [], [], [8, 9], [8, 9, 10], [0, 1, 4, 5, 6, 7, 8, 9, 10, 11], [0, 1, 4, 5, 6, 7, 8, 9, 10, 11, 12], [0, 1, 2, 3, 4, 5, 6, 7, 8, 9, 10, 11, 12, 13], [0, 1, 2, 3, 4, 5, 6, 7, 8, 9, 10, 11, 12, 13, 14]], [(7, [13], false), (11, [13], false)], []⟩
  | _ => ⟨[], [], []⟩
def dok155 : Nat → Bool
  | 1 => true
  | 3 => true
  | 5 => true
  | 8 => true
  | _ => false
def draw156 : Nat → DrawAnn
  | 1 => ⟨[[], [], [], [], [], [], [4, 5], [4, 5, 6], [], [], [8, 9], [8, 9, 10], [0, 1, 4, 5, 6, 7, 8, 9, 10, 11], [0, 1, 4, 5, 6, 7, 8, 9, 10, 11, 12], [0, 1, 2, 3, 4, 5, 6, 7, 8, 9, 10, 11, 12, 13], [0, 1, 2, 3, 4, 5, 6, 7, 8, 9, 10, 11, 12, 13, 14]], [(7, [13], false), (11, [13], false)], []⟩
  | 3 => ⟨[[], [], [0, 1], [0, 1, 2], [0, 1, 2, 3], [0, 1, 2, 3], [0, 1, 2, 3], [0, 1, 2, 3, 5, 6], [0, 1, 2, 3, 5, 6, 7], [0, 1, 2, 3], [0, 1, 2, 3], [0, 1, 2, 3, 9, 10], [0, 1, 2, 3, 9, 10, 11], [0, 1, 2, 3, 4, 5, 6, 7, 8, 9, 10, 11, 12], [0, 1, 2, 3, 4, 5, 6, 7, 8, 9, 10, 11, 12, 13], [0, 1, 2, 3, 4, 5, 6, 7, 8, 9, 10, 11, 12, 13, 14]], [(8, [13], false), (12, [13], false)], []⟩
  | 5 => ⟨[[], [], [0, 1], [0, 1, 2], [0, 1, 2, 3], [0, 1, 2, 3], [0, 1, 2, 3], [0, 1, 2, 3, 5, 6], [0, 1, 2, 3, 5, 6, 7], [0, 1, 2, 3], [0, 1, 2, 3], [0, 1, 2, 3, 9, 10], [0, 1, 2, 3, 9, 10, 11], [0, 1, 2, 3, 4, 5, 6, 7, 8, 9, 10, 11, 12], [0, 1, 2, 3, 4, 5, 6, 7, 8, 9, 10, 11, 12, 13], [0, 1, 2, 3, 4, 5, 6, 7, 8, 9, 10, 11, 12, 13, 14], [0, 1, 2, 3, 4, 5, 6, 7, 8, 9, 10, 11, 12, 13, 14, 15]], [(8, [13], false), (12, [13], false)], []⟩
  | 8 => ⟨[[], [], [], [], [], [], [4, 5], [4, 5, 6], [], [], [8, 9], [8, 9, 10], [0, 1, 4, 5, 6, 7, 8, 9, 10, 11], [0, 1, 4, 5, 6, 7, 8, 9, 10, 11, 12], [0, 1, 2, 3, 4, 5, 6, 7, 8, 9, 10, 11, 12, 13], [0, 1, 2, 3, 4, 5, 6, 7, 8, 9, 10, 11, 12, 13, 14]], [(7, [13], false), (11, [13], false)], []⟩
  | 10 => ⟨[[], [], [], [], [], [], [4, 5], [4, 5, 6], [], [], [8, 9], [8, 9, 10], [0, 1, 4, 5, 6, 7, 8, 9, 10, 11], [0, 1, 4, 5, 6, 7, 8, 9, 10, 11, 12], [0, 1, 2, 3, 4, 5, 6, 7, 8, 9, 10, 11, 12, 13], [0, 1, 2, 3, 4, 5, 6, 7, 8, 9, 10, 11, 12, 13, 14]], [(7, [13], false), (11, [13], false)], []⟩
  | 13 => ⟨[[], [], [0, 1], [0, 1, 2], [0, 1, 2, 3], [0, 1, 2, 3], [0, 1, 2, 3], [0, 1, 2, 3, 5, 6], [0, 1, 2, 3, 5, 6, 7], [0, 1, 2, 3], [0, 1, 2, 3], [0, 1, 2, 3, 9, 10], [0, 1, 2, 3, 9, 10, 11], [0, 1, 2, 3, 4, 5, 6, 7, 8, 9, 10, 11, 12], [0, 1, 2, 3, 4, 5, 6, 7, 8, 9, 10, 11, 12, 13], [0, 1, 2, 3, 4, 5, 6, 7, 8, 9, 10, 11, 12, 13, 14]], [(8, [13], false), (12, [13], false)], []⟩
  | 15 => ⟨[[], [], [0, 1], [0, 1, 2], [0, 1, 2, 3], [0, 1, 2, 3], [0, 1, 2, 3], [0, 1, 2, 3, 5, 6], [0, 1, 2, 3, 5, 6, 7], [0, 1, 2, 3], [0, 1, 2, 3], [0, 1, 2, 3, 9, 10], [0, 1, 2, 3, 9, 10, 11], [0, 1, 2, 3, 4, 5, 6, 7, 8, 9, 10, 11, 12], [0, 1, 2, 3, 4, 5, 6, 7, 8, 9, 10, 11, 12, 13], [0, 1, 2, 3, 4, 5, 6, 7, 8, 9, 10, 11, 12, 13, 14], [0, 1, 2, 3, 4, 5, 6, 7, 8, 9, 10, 11, 12, 13, 14, 15]], [(8, [13], false), (12, [13], false)], []⟩
  | 18 => ⟨[[], [], [], [], [], [], [4, 5], [4, 5, 6], [], [], [8, 9], [8, 9, 10], [0, 1, 4, 5, 6, 7, 8, 9, 10, 11], [0, 1, 4, 5, 6, 7, 8, 9, 10, 11, 12], [0, 1, 2, 3, 4, 5, 6, 7, 8, 9, 10, 11, 12, 13], [0, 1, 2, 3, 4, 5, 6, 7, 8, 9, 10, 11, 12, 13, 14]], [(7, [13], false), (11, [13], false)], []⟩
  | 21 => ⟨[[], [], [], [], [], [], [4, 5], [4, 5, 6], [], [], [8, 9], [8, 9, 10], [0, 1, 4, 5, 6, 7, 8, 9, 10, 11], [0, 1, 4, 5, 6, 7, 8, 9, 10, 11, 12], [0, 1, 2, 3, 4, 5, 6, 7, 8, 9, 10, 11, 12, 13], [0, 1, 2, 3, 4, 5, 6, 7, 8, 9, 10, 11, 12, 13, 14]], [(7, [13], false), (11, [13], false)], []⟩
  | _ => ⟨[], [], []⟩
def dok156 : Nat → Bool
  | 1 => true
  | 3 => true
  | 5 => true
  | 8 => true
  | 10 => true
  | 13 => true
  | 15 => true
  | 18 => true
  | 21 => true
  | _ => false
def draw162 : Nat → DrawAnn
  | 1 => ⟨[[], [], [1], [], [0, 1, 2, 3], [0, 1, 2, 3, 4], [0, 1, 2, 3, 4, 5]], [(3, [2, 5], false)], []⟩
  | _ => ⟨[], [], []⟩
def dok162 : Nat → Bool
  | 1 => true
  | _ => false
def draw163 : Nat → DrawAnn
  | 1 => ⟨[[], [], [1], [], [0, 1, 2, 3], [0, 1, 2, 3, 4], [0, 1, 2, 3, 4, 5]], [(3, [2, 5], false)], []⟩
  | _ => ⟨[], [], []⟩
def dok163 : Nat → Bool
  | 1 => true
  | _ => false
def draw167 : Nat → DrawAnn
  | 6 => ⟨[[], [], [0, 1], [], [], [3, 4], [0, 1, 2, 3, 4, 5]], [], []⟩
  | 7 => ⟨[[], [], [1], [0, 1, 2], [], [], [4, 5], [0, 1, 2, 3, 4, 5, 6], [0, 1, 2, 3, 4, 5, 6, 7]], [], []⟩
  | 14 => ⟨[[], [], [], [1, 2], [0, 1, 2, 3], [], [], [], [6, 7], [5, 6, 7, 8], [0, 1, 2, 3, 4, 5, 6, 7, 8, 9]], [], []⟩
  | 31 => ⟨[[], [], [], [1, 2], [0, 1, 2, 3], [], [], [], [6, 7], [5, 6, 7, 8], [0, 1, 2, 3, 4, 5, 6, 7, 8, 9]], [], []⟩
  | _ => ⟨[], [], []⟩
def dok167 : Nat → Bool
  | 6 => true
  | 7 => true
  | 14 => true
  | 31 => true
  | _ => false
def draw168 : Nat → DrawAnn
  | 3 => ⟨[[], [0], [], [0, 1, 2], [0, 1, 2, 3], [0, 1, 2, 3, 4], [0, 1, 2, 3, 4], [0, 1, 2, 3, 4], [0, 1, 2, 3, 4], [0, 1, 2, 3, 4, 7, 8], [0, 1, 2, 3, 4, 6, 7, 8, 9], [0, 1, 2, 3, 4, 6, 7, 8, 9, 10], [0, 1, 2, 3, 4], [0, 1, 2, 3, 4], [0, 1, 2, 3, 4], [0, 1, 2, 3, 4, 13, 14], [0, 1, 2, 3, 4, 13, 14, 15], [0, 1, 2, 3, 4, 12, 13, 14, 15, 16], [0, 1, 2, 3, 4, 12, 13, 14, 15, 16, 17], [0, 1, 2, 3, 4, 5, 6, 7, 8, 9, 10, 11, 12, 13, 14, 15, 16, 17, 18], [0, 1, 2, 3, 4, 5, 6, 7, 8, 9, 10, 11, 12, 13, 14, 15, 16, 17, 18, 19], [0, 1, 2, 3, 4, 5, 6, 7, 8, 9, 10, 11, 12, 13, 14, 15, 16, 17, 18, 19, 20]], [(11, [19], false), (18, [19], false)], []⟩
  | 5 => ⟨[[], [], [], [], [2, 3], [1, 2, 3, 4], [1, 2, 3, 4, 5], [], [], [], [8, 9], [7, 8, 9, 10], [7, 8, 9, 10, 11], [0, 1, 2, 3, 4, 5, 6, 7, 8, 9, 10, 11, 12], [0, 1, 2, 3, 4, 5, 6, 7, 8, 9, 10, 11, 12, 13], [0, 1, 2, 3, 4, 5, 6, 7, 8, 9, 10, 11, 12, 13, 14]], [(6, [13], false), (12, [13], false)], []⟩
  | 6 => ⟨[[], [], [], [1, 2], [], [], [], [5, 6], [], [], [], [9, 10], [8, 9, 10, 11], [8, 9, 10, 11, 12], [], [], [], [15, 16], [14, 15, 16, 17], [14, 15, 16, 17, 18], [0, 1, 2, 3, 8, 9, 10, 11, 12, 13, 14, 15, 16, 17, 18, 19], [0, 1, 2, 3, 8, 9, 10, 11, 12, 13, 14, 15, 16, 17, 18, 19, 20], [0, 1, 2, 3, 4, 5, 6, 7, 8, 9, 10, 11, 12, 13, 14, 15, 16, 17, 18, 19, 20, 21], [0, 1, 2, 3, 4, 5, 6, 7, 8, 9, 10, 11, 12, 13, 14, 15, 16, 17, 18, 19, 20, 21, 22]], [(13, [21], false), (19, [21], false)], []⟩
  | _ => ⟨[], [], []⟩
def dok168 : Nat → Bool
  | 3 => true
  | 5 => true
  | 6 => true
  | _ => false
def draw180 : Nat → DrawAnn
  | 1 => ⟨[[], [], [], [1, 2], [1, 2, 3], [], [], [5, 6], [5, 6, 7], [0, 1, 2, 3, 4, 5, 6, 7, 8], [0, 1, 2, 3, 4, 5, 6, 7, 8, 9]], [(4, [9], false), (8, [9], false)], []⟩
  | _ => ⟨[], [], []⟩
def dok180 : Nat → Bool
  | 1 => true
  | _ => false
def ann : Ann where
  reg := fun f i => match f with
    | 4 => reg4 i
    | 8 => reg8 i
    | 9 => reg9 i
    | 10 => reg10 i
    | 11 => reg11 i
    | 14 => reg14 i
    | 15 => reg15 i
    | 16 => reg16 i
    | 17 => reg17 i
    | 18 => reg18 i
    | 19 => reg19 i
    | 22 => reg22 i
    | 23 => reg23 i
    | 24 => reg24 i
    | 26 => reg26 i
    | 28 => reg28 i
    | 29 => reg29 i
    | 30 => reg30 i
    | 31 => reg31 i
    | 32 => reg32 i
    | 33 => reg33 i
    | 34 => reg34 i
    | 35 => reg35 i
    | 36 => reg36 i
    | 37 => reg37 i
    | 38 => reg38 i
    | 39 => reg39 i
    | 40 => reg40 i
    | 41 => reg41 i
    | 42 => reg42 i
    | 43 => reg43 i
    | 44 => reg44 i
    | 45 => reg45 i
    | 46 => reg46 i
    | 47 => reg47 i
    | 48 => reg48 i
    | 49 => reg49 i
    | 50 => reg50 i
    | 52 => reg52 i
    | 53 => reg53 i
    | 54 => reg54 i
    | 55 => reg55 i
    | 56 => reg56 i
    | 57 => reg57 i
    | 58 => reg58 i
    | 59 => reg59 i
    | 60 => reg60 i
    | 61 => reg61 i
    | 62 => reg62 i
    | 63 => reg63 i
    | 64 => reg64 i
    | 65 => reg65 i
    | 66 => reg66 i
    | 67 => reg67 i
    | 68 => reg68 i
    | 69 => reg69 i
    | 70 => reg70 i
    | 71 => reg71 i
    | 72 => reg72 i
    | 73 => reg73 i
    | 74 => reg74 i
    | 75 => reg75 i
    | 76 => reg76 i
    | 77 => reg77 i
    | 78 => reg78 i
    | 79 => reg79 i
    | 80 => reg80 i
    | 81 => reg81 i
    | 82 => reg82 i
    | 83 => reg83 i
    | 84 => reg84 i
    | 85 => reg85 i
    | 86 => reg86 i
    | 87 => reg87 i
    | 88 => reg88 i
    | 89 => reg89 i
    | 90 => reg90 i
    | 91 => reg91 i
    | 92 => reg92 i
    | 93 => reg93 i
    | 94 => reg94 i
    | 95 => reg95 i
    | 96 => reg96 i
    | 97 => reg97 i
    | 98 => reg98 i
    | 99 => reg99 i
    | 100 => reg100 i
    | 101 => reg101 i
    | 102 => reg102 i
    | 103 => reg103 i
    | 104 => reg104 i
    | 105 => reg105 i
    | 106 => reg106 i
    | 107 => reg107 i
    | 108 => reg108 i
    | 109 => reg109 i
    | 110 => reg110 i
    | 111 => reg111 i
    | 112 => reg112 i
    | 113 => reg113 i
    | 114 => reg114 i
    | 115 => reg115 i
    | 116 => reg116 i
    | 117 => reg117 i
    | 118 => reg118 i
    | 119 => reg119 i
    | 120 => reg120 i
    | 121 => reg121 i
    | 122 => reg122 i
    | 123 => reg123 i
    | 124 => reg124 i
    | 125 => reg125 i
    | 126 => reg126 i
    | 127 => reg127 i
    | 128 => reg128 i
    | 129 => reg129 i
    | 130 => reg130 i
    | 131 => reg131 i
    | 132 => reg132 i
    | 133 => reg133 i
    | 134 => reg134 i
    | 135 => reg135 i
    | 136 => reg136 i
    | 137 => reg137 i
    | 138 => reg138 i
    | 139 => reg139 i
    | 140 => reg140 i
    | 141 => reg141 i
    | 142 => reg142 i
    | 143 => reg143 i
    | 144 => reg144 i
    | 145 => reg145 i
    | 146 => reg146 i
    | 147 => reg147 i
    | 148 => reg148 i
    | 149 => reg149 i
    | 150 => reg150 i
    | 151 => reg151 i
    | 152 => reg152 i
    | 153 => reg153 i
    | 154 => reg154 i
    | 155 => reg155 i
    | 156 => reg156 i
    | 157 => reg157 i
    | 158 => reg158 i
    | 159 => reg159 i
    | 160 => reg160 i
    | 161 => reg161 i
    | 162 => reg162 i
    | 163 => reg163 i
    | 164 => reg164 i
    | 165 => reg165 i
    | 166 => reg166 i
    | 168 => reg168 i
    | 169 => reg169 i
    | 170 => reg170 i
    | 171 => reg171 i
    | 172 => reg172 i
    | 173 => reg173 i
    | 174 => reg174 i
    | 175 => reg175 i
    | 176 => reg176 i
    | 177 => reg177 i
    | 178 => reg178 i
    | 180 => reg180 i
    | 181 => reg181 i
    | 182 => reg182 i
    | 183 => reg183 i
    | _ => none
  loop := fun f i => match f with
    | 4 => loop4 i
    | 8 => loop8 i
    | 11 => loop11 i
    | 16 => loop16 i
    | 22 => loop22 i
    | 24 => loop24 i
    | 37 => loop37 i
    | 39 => loop39 i
    | 40 => loop40 i
    | 42 => loop42 i
    | 50 => loop50 i
    | 56 => loop56 i
    | 57 => loop57 i
    | 58 => loop58 i
    | 59 => loop59 i
    | 60 => loop60 i
    | 63 => loop63 i
    | 64 => loop64 i
    | 66 => loop66 i
    | 67 => loop67 i
    | 69 => loop69 i
    | 71 => loop71 i
    | 76 => loop76 i
    | 79 => loop79 i
    | 80 => loop80 i
    | 81 => loop81 i
    | 82 => loop82 i
    | 84 => loop84 i
    | 85 => loop85 i
    | 87 => loop87 i
    | 88 => loop88 i
    | 92 => loop92 i
    | 93 => loop93 i
    | 96 => loop96 i
    | 98 => loop98 i
    | 102 => loop102 i
    | 106 => loop106 i
    | 107 => loop107 i
    | 108 => loop108 i
    | 109 => loop109 i
    | 111 => loop111 i
    | 112 => loop112 i
    | 114 => loop114 i
    | 115 => loop115 i
    | 121 => loop121 i
    | 124 => loop124 i
    | 125 => loop125 i
    | 126 => loop126 i
    | 127 => loop127 i
    | 128 => loop128 i
    | 129 => loop129 i
    | 131 => loop131 i
    | 132 => loop132 i
    | 138 => loop138 i
    | 141 => loop141 i
    | 142 => loop142 i
    | 143 => loop143 i
    | 149 => loop149 i
    | 150 => loop150 i
    | 151 => loop151 i
    | 153 => loop153 i
    | 154 => loop154 i
    | 155 => loop155 i
    | 156 => loop156 i
    | 168 => loop168 i
    | 173 => loop173 i
    | 182 => loop182 i
    | _ => none
  keep := fun f => match f with
    | 42 => true
    | 47 => true
    | 48 => true
    | 81 => true
    | 106 => true
    | _ => false
  draw := fun f i => match f with
    | 16 => draw16 i
    | 22 => draw22 i
    | 24 => draw24 i
    | 37 => draw37 i
    | 39 => draw39 i
    | 40 => draw40 i
    | 42 => draw42 i
    | 44 => draw44 i
    | 46 => draw46 i
    | 50 => draw50 i
    | 57 => draw57 i
    | 58 => draw58 i
    | 64 => draw64 i
    | 67 => draw67 i
    | 69 => draw69 i
    | 74 => draw74 i
    | 76 => draw76 i
    | 78 => draw78 i
    | 80 => draw80 i
    | 81 => draw81 i
    | 82 => draw82 i
    | 88 => draw88 i
    | 92 => draw92 i
    | 96 => draw96 i
    | 98 => draw98 i
    | 100 => draw100 i
    | 106 => draw106 i
    | 107 => draw107 i
    | 108 => draw108 i
    | 109 => draw109 i
    | 111 => draw111 i
    | 112 => draw112 i
    | 114 => draw114 i
    | 115 => draw115 i
    | 121 => draw121 i
    | 132 => draw132 i
    | 134 => draw134 i
    | 138 => draw138 i
    | 141 => draw141 i
    | 148 => draw148 i
    | 149 => draw149 i
    | 150 => draw150 i
    | 151 => draw151 i
    | 153 => draw153 i
    | 154 => draw154 i
    | 155 => draw155 i
    | 156 => draw156 i
    | 162 => draw162 i
    | 163 => draw163 i
    | 167 => draw167 i
    | 168 => draw168 i
    | 180 => draw180 i
    | _ => ⟨[], [], []⟩
  dok := fun f i => match f with
    | 16 => dok16 i
    | 22 => dok22 i
    | 24 => dok24 i
    | 37 => dok37 i
    | 39 => dok39 i
    | 40 => dok40 i
    | 42 => dok42 i
    | 44 => dok44 i
    | 46 => dok46 i
    | 50 => dok50 i
    | 57 => dok57 i
    | 58 => dok58 i
    | 64 => dok64 i
    | 67 => dok67 i
    | 69 => dok69 i
    | 74 => dok74 i
    | 76 => dok76 i
    | 78 => dok78 i
    | 80 => dok80 i
    | 81 => dok81 i
    | 82 => dok82 i
    | 88 => dok88 i
    | 92 => dok92 i
    | 96 => dok96 i
    | 98 => dok98 i
    | 100 => dok100 i
    | 106 => dok106 i
    | 107 => dok107 i
    | 108 => dok108 i
    | 109 => dok109 i
    | 111 => dok111 i
    | 112 => dok112 i
    | 114 => dok114 i
    | 115 => dok115 i
    | 121 => dok121 i
    | 132 => dok132 i
    | 134 => dok134 i
    | 138 => dok138 i
    | 141 => dok141 i
    | 148 => dok148 i
    | 149 => dok149 i
    | 150 => dok150 i
    | 151 => dok151 i
    | 153 => dok153 i
    | 154 => dok154 i
    | 155 => dok155 i
    | 156 => dok156 i
    | 162 => dok162 i
    | 163 => dok163 i
    | 167 => dok167 i
    | 168 => dok168 i
    | 180 => dok180 i
    | _ => false
  recov := fun f => match f with
    | 44 => true
    | _ => false
theorem a4 : ann.recov 4 = false ∧ ann.reg 4 = reg4 ∧ ann.loop 4 = loop4 ∧ ann.keep 4 = false := ⟨rfl, rfl, rfl, rfl⟩
theorem a8 : ann.recov 8 = false ∧ ann.reg 8 = reg8 ∧ ann.loop 8 = loop8 ∧ ann.keep 8 = false := ⟨rfl, rfl, rfl, rfl⟩
theorem a9 : ann.recov 9 = false ∧ ann.reg 9 = reg9 ∧ ann.keep 9 = false := ⟨rfl, rfl, rfl⟩
theorem a10 : ann.recov 10 = false ∧ ann.reg 10 = reg10 ∧ ann.keep 10 = false := ⟨rfl, rfl, rfl⟩
theorem a11 : ann.recov 11 = false ∧ ann.reg 11 = reg11 ∧ ann.loop 11 = loop11 ∧ ann.keep 11 = false := ⟨rfl, rfl, rfl, rfl⟩
theorem a14 : ann.recov 14 = false ∧ ann.reg 14 = reg14 ∧ ann.keep 14 = false := ⟨rfl, rfl, rfl⟩
theorem a15 : ann.recov 15 = false ∧ ann.reg 15 = reg15 ∧ ann.keep 15 = false := ⟨rfl, rfl, rfl⟩
theorem a16 : ann.recov 16 = false ∧ ann.draw 16 = draw16 ∧ ann.dok 16 = dok16 ∧ ann.reg 16 = reg16 ∧ ann.loop 16 = loop16 ∧ ann.keep 16 = false := ⟨rfl, rfl, rfl, rfl, rfl, rfl⟩
theorem a17 : ann.recov 17 = false ∧ ann.reg 17 = reg17 ∧ ann.keep 17 = false := ⟨rfl, rfl, rfl⟩
theorem a18 : ann.recov 18 = false ∧ ann.reg 18 = reg18 ∧ ann.keep 18 = false := ⟨rfl, rfl, rfl⟩
theorem a19 : ann.recov 19 = false ∧ ann.reg 19 = reg19 ∧ ann.keep 19 = false := ⟨rfl, rfl, rfl⟩
theorem a22 : ann.recov 22 = false ∧ ann.draw 22 = draw22 ∧ ann.dok 22 = dok22 ∧ ann.reg 22 = reg22 ∧ ann.loop 22 = loop22 ∧ ann.keep 22 = false := ⟨rfl, rfl, rfl, rfl, rfl, rfl⟩
theorem a23 : ann.recov 23 = false ∧ ann.reg 23 = reg23 ∧ ann.keep 23 = false := ⟨rfl, rfl, rfl⟩
theorem a24 : ann.recov 24 = false ∧ ann.draw 24 = draw24 ∧ ann.dok 24 = dok24 ∧ ann.reg 24 = reg24 ∧ ann.loop 24 = loop24 ∧ ann.keep 24 = false := ⟨rfl, rfl, rfl, rfl, rfl, rfl⟩
theorem a26 : ann.recov 26 = false ∧ ann.reg 26 = reg26 ∧ ann.keep 26 = false := ⟨rfl, rfl, rfl⟩
theorem a28 : ann.recov 28 = false ∧ ann.reg 28 = reg28 ∧ ann.keep 28 = false := ⟨rfl, rfl, rfl⟩
theorem a29 : ann.recov 29 = false ∧ ann.reg 29 = reg29 ∧ ann.keep 29 = false := ⟨rfl, rfl, rfl⟩
theorem a30 : ann.recov 30 = false ∧ ann.reg 30 = reg30 ∧ ann.keep 30 = false := ⟨rfl, rfl, rfl⟩
theorem a31 : ann.recov 31 = false ∧ ann.reg 31 = reg31 ∧ ann.keep 31 = false := ⟨rfl, rfl, rfl⟩
theorem a32 : ann.recov 32 = false ∧ ann.reg 32 = reg32 ∧ ann.keep 32 = false := ⟨rfl, rfl, rfl⟩
theorem a33 : ann.recov 33 = false ∧ ann.reg 33 = reg33 ∧ ann.keep 33 = false := ⟨rfl, rfl, rfl⟩
theorem a34 : ann.recov 34 = false ∧ ann.reg 34 = reg34 ∧ ann.keep 34 = false := ⟨rfl, rfl, rfl⟩
theorem a35 : ann.recov 35 = false ∧ ann.reg 35 = reg35 ∧ ann.keep 35 = false := ⟨rfl, rfl, rfl⟩
theorem a36 : ann.recov 36 = false ∧ ann.reg 36 = reg36 ∧ ann.keep 36 = false := ⟨rfl, rfl, rfl⟩
theorem a37 : ann.recov 37 = false ∧ ann.draw 37 = draw37 ∧ ann.dok 37 = dok37 ∧ ann.reg 37 = reg37 ∧ ann.loop 37 = loop37 ∧ ann.keep 37 = false := ⟨rfl, rfl, rfl, rfl, rfl, rfl⟩
theorem a38 : ann.recov 38 = false ∧ ann.reg 38 = reg38 ∧ ann.keep 38 = false := ⟨rfl, rfl, rfl⟩
theorem a39 : ann.recov 39 = false ∧ ann.draw 39 = draw39 ∧ ann.dok 39 = dok39 ∧ ann.reg 39 = reg39 ∧ ann.loop 39 = loop39 ∧ ann.keep 39 = false := ⟨rfl, rfl, rfl, rfl, rfl, rfl⟩
theorem a40 : ann.recov 40 = false ∧ ann.draw 40 = draw40 ∧ ann.dok 40 = dok40 ∧ ann.reg 40 = reg40 ∧ ann.loop 40 = loop40 ∧ ann.keep 40 = false := ⟨rfl, rfl, rfl, rfl, rfl, rfl⟩
theorem a41 : ann.recov 41 = false ∧ ann.reg 41 = reg41 ∧ ann.keep 41 = false := ⟨rfl, rfl, rfl⟩
theorem a42 : ann.recov 42 = false ∧ ann.draw 42 = draw42 ∧ ann.dok 42 = dok42 ∧ ann.reg 42 = reg42 ∧ ann.loop 42 = loop42 ∧ ann.keep 42 = true := ⟨rfl, rfl, rfl, rfl, rfl, rfl⟩
theorem a43 : ann.recov 43 = false ∧ ann.reg 43 = reg43 ∧ ann.keep 43 = false := ⟨rfl, rfl, rfl⟩
theorem a44 : ann.recov 44 = true ∧ ann.draw 44 = draw44 ∧ ann.dok 44 = dok44 ∧ ann.reg 44 = reg44 ∧ ann.keep 44 = false := ⟨rfl, rfl, rfl, rfl, rfl⟩
theorem a45 : ann.recov 45 = false ∧ ann.reg 45 = reg45 ∧ ann.keep 45 = false := ⟨rfl, rfl, rfl⟩
theorem a46 : ann.recov 46 = false ∧ ann.draw 46 = draw46 ∧ ann.dok 46 = dok46 ∧ ann.reg 46 = reg46 ∧ ann.keep 46 = false := ⟨rfl, rfl, rfl, rfl, rfl⟩
theorem a47 : ann.recov 47 = false ∧ ann.reg 47 = reg47 ∧ ann.keep 47 = true := ⟨rfl, rfl, rfl⟩
theorem a48 : ann.recov 48 = false ∧ ann.reg 48 = reg48 ∧ ann.keep 48 = true := ⟨rfl, rfl, rfl⟩
theorem a49 : ann.recov 49 = false ∧ ann.reg 49 = reg49 ∧ ann.keep 49 = false := ⟨rfl, rfl, rfl⟩
theorem a50 : ann.recov 50 = false ∧ ann.draw 50 = draw50 ∧ ann.dok 50 = dok50 ∧ ann.reg 50 = reg50 ∧ ann.loop 50 = loop50 ∧ ann.keep 50 = false := ⟨rfl, rfl, rfl, rfl, rfl, rfl⟩
theorem a52 : ann.recov 52 = false ∧ ann.reg 52 = reg52 ∧ ann.keep 52 = false := ⟨rfl, rfl, rfl⟩
theorem a53 : ann.recov 53 = false ∧ ann.reg 53 = reg53 ∧ ann.keep 53 = false := ⟨rfl, rfl, rfl⟩
theorem a54 : ann.recov 54 = false ∧ ann.reg 54 = reg54 ∧ ann.keep 54 = false := ⟨rfl, rfl, rfl⟩
theorem a55 : ann.recov 55 = false ∧ ann.reg 55 = reg55 ∧ ann.keep 55 = false := ⟨rfl, rfl, rfl⟩
theorem a56 : ann.recov 56 = false ∧ ann.reg 56 = reg56 ∧ ann.loop 56 = loop56 ∧ ann.keep 56 = false := ⟨rfl, rfl, rfl, rfl⟩
theorem a57 : ann.recov 57 = false ∧ ann.draw 57 = draw57 ∧ ann.dok 57 = dok57 ∧ ann.reg 57 = reg57 ∧ ann.loop 57 = loop57 ∧ ann.keep 57 = false := ⟨rfl, rfl, rfl, rfl, rfl, rfl⟩
theorem a58 : ann.recov 58 = false ∧ ann.draw 58 = draw58 ∧ ann.dok 58 = dok58 ∧ ann.reg 58 = reg58 ∧ ann.loop 58 = loop58 ∧ ann.keep 58 = false := ⟨rfl, rfl, rfl, rfl, rfl, rfl⟩
theorem a59 : ann.recov 59 = false ∧ ann.reg 59 = reg59 ∧ ann.loop 59 = loop59 ∧ ann.keep 59 = false := ⟨rfl, rfl, rfl, rfl⟩
theorem a60 : ann.recov 60 = false ∧ ann.reg 60 = reg60 ∧ ann.loop 60 = loop60 ∧ ann.keep 60 = false := ⟨rfl, rfl, rfl, rfl⟩
theorem a61 : ann.recov 61 = false ∧ ann.reg 61 = reg61 ∧ ann.keep 61 = false := ⟨rfl, rfl, rfl⟩
theorem a62 : ann.recov 62 = false ∧ ann.reg 62 = reg62 ∧ ann.keep 62 = false := ⟨rfl, rfl, rfl⟩
theorem a63 : ann.recov 63 = false ∧ ann.reg 63 = reg63 ∧ ann.loop 63 = loop63 ∧ ann.keep 63 = false := ⟨rfl, rfl, rfl, rfl⟩
theorem a64 : ann.recov 64 = false ∧ ann.draw 64 = draw64 ∧ ann.dok 64 = dok64 ∧ ann.reg 64 = reg64 ∧ ann.loop 64 = loop64 ∧ ann.keep 64 = false := ⟨rfl, rfl, rfl, rfl, rfl, rfl⟩
theorem a65 : ann.recov 65 = false ∧ ann.reg 65 = reg65 ∧ ann.keep 65 = false := ⟨rfl, rfl, rfl⟩
theorem a66 : ann.recov 66 = false ∧ ann.reg 66 = reg66 ∧ ann.loop 66 = loop66 ∧ ann.keep 66 = false := ⟨rfl, rfl, rfl, rfl⟩
theorem a67 : ann.recov 67 = false ∧ ann.draw 67 = draw67 ∧ ann.dok 67 = dok67 ∧ ann.reg 67 = reg67 ∧ ann.loop 67 = loop67 ∧ ann.keep 67 = false := ⟨rfl, rfl, rfl, rfl, rfl, rfl⟩
theorem a68 : ann.recov 68 = false ∧ ann.reg 68 = reg68 ∧ ann.keep 68 = false := ⟨rfl, rfl, rfl⟩
theorem a69 : ann.recov 69 = false ∧ ann.draw 69 = draw69 ∧ ann.dok 69 = dok69 ∧ ann.reg 69 = reg69 ∧ ann.loop 69 = loop69 ∧ ann.keep 69 = false := ⟨rfl, rfl, rfl, rfl, rfl, rfl⟩
theorem a70 : ann.recov 70 = false ∧ ann.reg 70 = reg70 ∧ ann.keep 70 = false := ⟨rfl, rfl, rfl⟩
theorem a71 : ann.recov 71 = false ∧ ann.reg 71 = reg71 ∧ ann.loop 71 = loop71 ∧ ann.keep 71 = false := ⟨rfl, rfl, rfl, rfl⟩
theorem a72 : ann.recov 72 = false ∧ ann.reg 72 = reg72 ∧ ann.keep 72 = false := ⟨rfl, rfl, rfl⟩
theorem a73 : ann.recov 73 = false ∧ ann.reg 73 = reg73 ∧ ann.keep 73 = false := ⟨rfl, rfl, rfl⟩
theorem a74 : ann.recov 74 = false ∧ ann.draw 74 = draw74 ∧ ann.dok 74 = dok74 ∧ ann.reg 74 = reg74 ∧ ann.keep 74 = false := ⟨rfl, rfl, rfl, rfl, rfl⟩
theorem a75 : ann.recov 75 = false ∧ ann.reg 75 = reg75 ∧ ann.keep 75 = false := ⟨rfl, rfl, rfl⟩
theorem a76 : ann.recov 76 = false ∧ ann.draw 76 = draw76 ∧ ann.dok 76 = dok76 ∧ ann.reg 76 = reg76 ∧ ann.loop 76 = loop76 ∧ ann.keep 76 = false := ⟨rfl, rfl, rfl, rfl, rfl, rfl⟩
theorem a77 : ann.recov 77 = false ∧ ann.reg 77 = reg77 ∧ ann.keep 77 = false := ⟨rfl, rfl, rfl⟩
theorem a78 : ann.recov 78 = false ∧ ann.draw 78 = draw78 ∧ ann.dok 78 = dok78 ∧ ann.reg 78 = reg78 ∧ ann.keep 78 = false := ⟨rfl, rfl, rfl, rfl, rfl⟩
theorem a79 : ann.recov 79 = false ∧ ann.reg 79 = reg79 ∧ ann.loop 79 = loop79 ∧ ann.keep 79 = false := ⟨rfl, rfl, rfl, rfl⟩
theorem a80 : ann.recov 80 = false ∧ ann.draw 80 = draw80 ∧ ann.dok 80 = dok80 ∧ ann.reg 80 = reg80 ∧ ann.loop 80 = loop80 ∧ ann.keep 80 = false := ⟨rfl, rfl, rfl, rfl, rfl, rfl⟩
theorem a81 : ann.recov 81 = false ∧ ann.draw 81 = draw81 ∧ ann.dok 81 = dok81 ∧ ann.reg 81 = reg81 ∧ ann.loop 81 = loop81 ∧ ann.keep 81 = true := ⟨rfl, rfl, rfl, rfl, rfl, rfl⟩
theorem a82 : ann.recov 82 = false ∧ ann.draw 82 = draw82 ∧ ann.dok 82 = dok82 ∧ ann.reg 82 = reg82 ∧ ann.loop 82 = loop82 ∧ ann.keep 82 = false := ⟨rfl, rfl, rfl, rfl, rfl, rfl⟩
theorem a83 : ann.recov 83 = false ∧ ann.reg 83 = reg83 ∧ ann.keep 83 = false := ⟨rfl, rfl, rfl⟩
theorem a84 : ann.recov 84 = false ∧ ann.reg 84 = reg84 ∧ ann.loop 84 = loop84 ∧ ann.keep 84 = false := ⟨rfl, rfl, rfl, rfl⟩
theorem a85 : ann.recov 85 = false ∧ ann.reg 85 = reg85 ∧ ann.loop 85 = loop85 ∧ ann.keep 85 = false := ⟨rfl, rfl, rfl, rfl⟩
theorem a86 : ann.recov 86 = false ∧ ann.reg 86 = reg86 ∧ ann.keep 86 = false := ⟨rfl, rfl, rfl⟩
theorem a87 : ann.recov 87 = false ∧ ann.reg 87 = reg87 ∧ ann.loop 87 = loop87 ∧ ann.keep 87 = false := ⟨rfl, rfl, rfl, rfl⟩
theorem a88 : ann.recov 88 = false ∧ ann.draw 88 = draw88 ∧ ann.dok 88 = dok88 ∧ ann.reg 88 = reg88 ∧ ann.loop 88 = loop88 ∧ ann.keep 88 = false := ⟨rfl, rfl, rfl, rfl, rfl, rfl⟩
theorem a89 : ann.recov 89 = false ∧ ann.reg 89 = reg89 ∧ ann.keep 89 = false := ⟨rfl, rfl, rfl⟩
theorem a90 : ann.recov 90 = false ∧ ann.reg 90 = reg90 ∧ ann.keep 90 = false := ⟨rfl, rfl, rfl⟩
theorem a91 : ann.recov 91 = false ∧ ann.reg 91 = reg91 ∧ ann.keep 91 = false := ⟨rfl, rfl, rfl⟩
theorem a92 : ann.recov 92 = false ∧ ann.draw 92 = draw92 ∧ ann.dok 92 = dok92 ∧ ann.reg 92 = reg92 ∧ ann.loop 92 = loop92 ∧ ann.keep 92 = false := ⟨rfl, rfl, rfl, rfl, rfl, rfl⟩
theorem a93 : ann.recov 93 = false ∧ ann.reg 93 = reg93 ∧ ann.loop 93 = loop93 ∧ ann.keep 93 = false := ⟨rfl, rfl, rfl, rfl⟩
theorem a94 : ann.recov 94 = false ∧ ann.reg 94 = reg94 ∧ ann.keep 94 = false := ⟨rfl, rfl, rfl⟩
theorem a95 : ann.recov 95 = false ∧ ann.reg 95 = reg95 ∧ ann.keep 95 = false := ⟨rfl, rfl, rfl⟩
theorem a96 : ann.recov 96 = false ∧ ann.draw 96 = draw96 ∧ ann.dok 96 = dok96 ∧ ann.reg 96 = reg96 ∧ ann.loop 96 = loop96 ∧ ann.keep 96 = false := ⟨rfl, rfl, rfl, rfl, rfl, rfl⟩
theorem a97 : ann.recov 97 = false ∧ ann.reg 97 = reg97 ∧ ann.keep 97 = false := ⟨rfl, rfl, rfl⟩
theorem a98 : ann.recov 98 = false ∧ ann.draw 98 = draw98 ∧ ann.dok 98 = dok98 ∧ ann.reg 98 = reg98 ∧ ann.loop 98 = loop98 ∧ ann.keep 98 = false := ⟨rfl, rfl, rfl, rfl, rfl, rfl⟩
theorem a99 : ann.recov 99 = false ∧ ann.reg 99 = reg99 ∧ ann.keep 99 = false := ⟨rfl, rfl, rfl⟩
theorem a100 : ann.recov 100 = false ∧ ann.draw 100 = draw100 ∧ ann.dok 100 = dok100 ∧ ann.reg 100 = reg100 ∧ ann.keep 100 = false := ⟨rfl, rfl, rfl, rfl, rfl⟩
theorem a101 : ann.recov 101 = false ∧ ann.reg 101 = reg101 ∧ ann.keep 101 = false := ⟨rfl, rfl, rfl⟩
theorem a102 : ann.recov 102 = false ∧ ann.reg 102 = reg102 ∧ ann.loop 102 = loop102 ∧ ann.keep 102 = false := ⟨rfl, rfl, rfl, rfl⟩
theorem a103 : ann.recov 103 = false ∧ ann.reg 103 = reg103 ∧ ann.keep 103 = false := ⟨rfl, rfl, rfl⟩
theorem a104 : ann.recov 104 = false ∧ ann.reg 104 = reg104 ∧ ann.keep 104 = false := ⟨rfl, rfl, rfl⟩
theorem a105 : ann.recov 105 = false ∧ ann.reg 105 = reg105 ∧ ann.keep 105 = false := ⟨rfl, rfl, rfl⟩
theorem a106 : ann.recov 106 = false ∧ ann.draw 106 = draw106 ∧ ann.dok 106 = dok106 ∧ ann.reg 106 = reg106 ∧ ann.loop 106 = loop106 ∧ ann.keep 106 = true := ⟨rfl, rfl, rfl, rfl, rfl, rfl⟩
theorem a107 : ann.recov 107 = false ∧ ann.draw 107 = draw107 ∧ ann.dok 107 = dok107 ∧ ann.reg 107 = reg107 ∧ ann.loop 107 = loop107 ∧ ann.keep 107 = false := ⟨rfl, rfl, rfl, rfl, rfl, rfl⟩
theorem a108 : ann.recov 108 = false ∧ ann.draw 108 = draw108 ∧ ann.dok 108 = dok108 ∧ ann.reg 108 = reg108 ∧ ann.loop 108 = loop108 ∧ ann.keep 108 = false := ⟨rfl, rfl, rfl, rfl, rfl, rfl⟩
theorem a109 : ann.recov 109 = false ∧ ann.draw 109 = draw109 ∧ ann.dok 109 = dok109 ∧ ann.reg 109 = reg109 ∧ ann.loop 109 = loop109 ∧ ann.keep 109 = false := ⟨rfl, rfl, rfl, rfl, rfl, rfl⟩
theorem a110 : ann.recov 110 = false ∧ ann.reg 110 = reg110 ∧ ann.keep 110 = false := ⟨rfl, rfl, rfl⟩
theorem a111 : ann.recov 111 = false ∧ ann.draw 111 = draw111 ∧ ann.dok 111 = dok111 ∧ ann.reg 111 = reg111 ∧ ann.loop 111 = loop111 ∧ ann.keep 111 = false := ⟨rfl, rfl, rfl, rfl, rfl, rfl⟩
theorem a112 : ann.recov 112 = false ∧ ann.draw 112 = draw112 ∧ ann.dok 112 = dok112 ∧ ann.reg 112 = reg112 ∧ ann.loop 112 = loop112 ∧ ann.keep 112 = false := ⟨rfl, rfl, rfl, rfl, rfl, rfl⟩
theorem a113 : ann.recov 113 = false ∧ ann.reg 113 = reg113 ∧ ann.keep 113 = false := ⟨rfl, rfl, rfl⟩
theorem a114 : ann.recov 114 = false ∧ ann.draw 114 = draw114 ∧ ann.dok 114 = dok114 ∧ ann.reg 114 = reg114 ∧ ann.loop 114 = loop114 ∧ ann.keep 114 = false := ⟨rfl, rfl, rfl, rfl, rfl, rfl⟩
theorem a115 : ann.recov 115 = false ∧ ann.draw 115 = draw115 ∧ ann.dok 115 = dok115 ∧ ann.reg 115 = reg115 ∧ ann.loop 115 = loop115 ∧ ann.keep 115 = false := ⟨rfl, rfl, rfl, rfl, rfl, rfl⟩
theorem a116 : ann.recov 116 = false ∧ ann.reg 116 = reg116 ∧ ann.keep 116 = false := ⟨rfl, rfl, rfl⟩
theorem a117 : ann.recov 117 = false ∧ ann.reg 117 = reg117 ∧ ann.keep 117 = false := ⟨rfl, rfl, rfl⟩
theorem a118 : ann.recov 118 = false ∧ ann.reg 118 = reg118 ∧ ann.keep 118 = false := ⟨rfl, rfl, rfl⟩
theorem a119 : ann.recov 119 = false ∧ ann.reg 119 = reg119 ∧ ann.keep 119 = false := ⟨rfl, rfl, rfl⟩
theorem a120 : ann.recov 120 = false ∧ ann.reg 120 = reg120 ∧ ann.keep 120 = false := ⟨rfl, rfl, rfl⟩
theorem a121 : ann.recov 121 = false ∧ ann.draw 121 = draw121 ∧ ann.dok 121 = dok121 ∧ ann.reg 121 = reg121 ∧ ann.loop 121 = loop121 ∧ ann.keep 121 = false := ⟨rfl, rfl, rfl, rfl, rfl, rfl⟩
theorem a122 : ann.recov 122 = false ∧ ann.reg 122 = reg122 ∧ ann.keep 122 = false := ⟨rfl, rfl, rfl⟩
theorem a123 : ann.recov 123 = false ∧ ann.reg 123 = reg123 ∧ ann.keep 123 = false := ⟨rfl, rfl, rfl⟩
theorem a124 : ann.recov 124 = false ∧ ann.reg 124 = reg124 ∧ ann.loop 124 = loop124 ∧ ann.keep 124 = false := ⟨rfl, rfl, rfl, rfl⟩
theorem a125 : ann.recov 125 = false ∧ ann.reg 125 = reg125 ∧ ann.loop 125 = loop125 ∧ ann.keep 125 = false := ⟨rfl, rfl, rfl, rfl⟩
theorem a126 : ann.recov 126 = false ∧ ann.reg 126 = reg126 ∧ ann.loop 126 = loop126 ∧ ann.keep 126 = false := ⟨rfl, rfl, rfl, rfl⟩
theorem a127 : ann.recov 127 = false ∧ ann.reg 127 = reg127 ∧ ann.loop 127 = loop127 ∧ ann.keep 127 = false := ⟨rfl, rfl, rfl, rfl⟩
theorem a128 : ann.recov 128 = false ∧ ann.reg 128 = reg128 ∧ ann.loop 128 = loop128 ∧ ann.keep 128 = false := ⟨rfl, rfl, rfl, rfl⟩
theorem a129 : ann.recov 129 = false ∧ ann.reg 129 = reg129 ∧ ann.loop 129 = loop129 ∧ ann.keep 129 = false := ⟨rfl, rfl, rfl, rfl⟩
theorem a130 : ann.recov 130 = false ∧ ann.reg 130 = reg130 ∧ ann.keep 130 = false := ⟨rfl, rfl, rfl⟩
theorem a131 : ann.recov 131 = false ∧ ann.reg 131 = reg131 ∧ ann.loop 131 = loop131 ∧ ann.keep 131 = false := ⟨rfl, rfl, rfl, rfl⟩
theorem a132 : ann.recov 132 = false ∧ ann.draw 132 = draw132 ∧ ann.dok 132 = dok132 ∧ ann.reg 132 = reg132 ∧ ann.loop 132 = loop132 ∧ ann.keep 132 = false := ⟨rfl, rfl, rfl, rfl, rfl, rfl⟩
theorem a133 : ann.recov 133 = false ∧ ann.reg 133 = reg133 ∧ ann.keep 133 = false := ⟨rfl, rfl, rfl⟩
theorem a134 : ann.recov 134 = false ∧ ann.draw 134 = draw134 ∧ ann.dok 134 = dok134 ∧ ann.reg 134 = reg134 ∧ ann.keep 134 = false := ⟨rfl, rfl, rfl, rfl, rfl⟩
theorem a135 : ann.recov 135 = false ∧ ann.reg 135 = reg135 ∧ ann.keep 135 = false := ⟨rfl, rfl, rfl⟩
theorem a136 : ann.recov 136 = false ∧ ann.reg 136 = reg136 ∧ ann.keep 136 = false := ⟨rfl, rfl, rfl⟩
theorem a137 : ann.recov 137 = false ∧ ann.reg 137 = reg137 ∧ ann.keep 137 = false := ⟨rfl, rfl, rfl⟩
theorem a138 : ann.recov 138 = false ∧ ann.draw 138 = draw138 ∧ ann.dok 138 = dok138 ∧ ann.reg 138 = reg138 ∧ ann.loop 138 = loop138 ∧ ann.keep 138 = false := ⟨rfl, rfl, rfl, rfl, rfl, rfl⟩
theorem a139 : ann.recov 139 = false ∧ ann.reg 139 = reg139 ∧ ann.keep 139 = false := ⟨rfl, rfl, rfl⟩
theorem a140 : ann.recov 140 = false ∧ ann.reg 140 = reg140 ∧ ann.keep 140 = false := ⟨rfl, rfl, rfl⟩
theorem a141 : ann.recov 141 = false ∧ ann.draw 141 = draw141 ∧ ann.dok 141 = dok141 ∧ ann.reg 141 = reg141 ∧ ann.loop 141 = loop141 ∧ ann.keep 141 = false := ⟨rfl, rfl, rfl, rfl, rfl, rfl⟩
theorem a142 : ann.recov 142 = false ∧ ann.reg 142 = reg142 ∧ ann.loop 142 = loop142 ∧ ann.keep 142 = false := ⟨rfl, rfl, rfl, rfl⟩
theorem a143 : ann.recov 143 = false ∧ ann.reg 143 = reg143 ∧ ann.loop 143 = loop143 ∧ ann.keep 143 = false := ⟨rfl, rfl, rfl, rfl⟩
theorem a144 : ann.recov 144 = false ∧ ann.reg 144 = reg144 ∧ ann.keep 144 = false := ⟨rfl, rfl, rfl⟩
theorem a145 : ann.recov 145 = false ∧ ann.reg 145 = reg145 ∧ ann.keep 145 = false := ⟨rfl, rfl, rfl⟩
theorem a146 : ann.recov 146 = false ∧ ann.reg 146 = reg146 ∧ ann.keep 146 = false := ⟨rfl, rfl, rfl⟩
theorem a147 : ann.recov 147 = false ∧ ann.reg 147 = reg147 ∧ ann.keep 147 = false := ⟨rfl, rfl, rfl⟩
theorem a148 : ann.recov 148 = false ∧ ann.draw 148 = draw148 ∧ ann.dok 148 = dok148 ∧ ann.reg 148 = reg148 ∧ ann.keep 148 = false := ⟨rfl, rfl, rfl, rfl, rfl⟩
theorem a149 : ann.recov 149 = false ∧ ann.draw 149 = draw149 ∧ ann.dok 149 = dok149 ∧ ann.reg 149 = reg149 ∧ ann.loop 149 = loop149 ∧ ann.keep 149 = false := ⟨rfl, rfl, rfl, rfl, rfl, rfl⟩
theorem a150 : ann.recov 150 = false ∧ ann.draw 150 = draw150 ∧ ann.dok 150 = dok150 ∧ ann.reg 150 = reg150 ∧ ann.loop 150 = loop150 ∧ ann.keep 150 = false := ⟨rfl, rfl, rfl, rfl, rfl, rfl⟩
theorem a151 : ann.recov 151 = false ∧ ann.draw 151 = draw151 ∧ ann.dok 151 = dok151 ∧ ann.reg 151 = reg151 ∧ ann.loop 151 = loop151 ∧ ann.keep 151 = false := ⟨rfl, rfl, rfl, rfl, rfl, rfl⟩
theorem a152 : ann.recov 152 = false ∧ ann.reg 152 = reg152 ∧ ann.keep 152 = false := ⟨rfl, rfl, rfl⟩
theorem a153 : ann.recov 153 = false ∧ ann.draw 153 = draw153 ∧ ann.dok 153 = dok153 ∧ ann.reg 153 = reg153 ∧ ann.loop 153 = loop153 ∧ ann.keep 153 = false := ⟨rfl, rfl, rfl, rfl, rfl, rfl⟩
theorem a154 : ann.recov 154 = false ∧ ann.draw 154 = draw154 ∧ ann.dok 154 = dok154 ∧ ann.reg 154 = reg154 ∧ ann.loop 154 = loop154 ∧ ann.keep 154 = false := ⟨rfl, rfl, rfl, rfl, rfl, rfl⟩
theorem a155 : ann.recov 155 = false ∧ ann.draw 155 = draw155 ∧ ann.dok 155 = dok155 ∧ ann.reg 155 = reg155 ∧ ann.loop 155 = loop155 ∧ ann.keep 155 = false := ⟨rfl, rfl, rfl, rfl, rfl, rfl⟩
theorem a156 : ann.recov 156 = false ∧ ann.draw 156 = draw156 ∧ ann.dok 156 = dok156 ∧ ann.reg 156 = reg156 ∧ ann.loop 156 = loop156 ∧ ann.keep 156 = false := ⟨rfl, rfl, rfl, rfl, rfl, rfl⟩
theorem a157 : ann.recov 157 = false ∧ ann.reg 157 = reg157 ∧ ann.keep 157 = false := ⟨rfl, rfl, rfl⟩
theorem a158 : ann.recov 158 = false ∧ ann.reg 158 = reg158 ∧ ann.keep 158 = false := ⟨rfl, rfl, rfl⟩
theorem a159 : ann.recov 159 = false ∧ ann.reg 159 = reg159 ∧ ann.keep 159 = false := ⟨rfl, rfl, rfl⟩
theorem a160 : ann.recov 160 = false ∧ ann.reg 160 = reg160 ∧ ann.keep 160 = false := ⟨rfl, rfl, rfl⟩
theorem a161 : ann.recov 161 = false ∧ ann.reg 161 = reg161 ∧ ann.keep 161 = false := ⟨rfl, rfl, rfl⟩
theorem a162 : ann.recov 162 = false ∧ ann.draw 162 = draw162 ∧ ann.dok 162 = dok162 ∧ ann.reg 162 = reg162 ∧ ann.keep 162 = false := ⟨rfl, rfl, rfl, rfl, rfl⟩
theorem a163 : ann.recov 163 = false ∧ ann.draw 163 = draw163 ∧ ann.dok 163 = dok163 ∧ ann.reg 163 = reg163 ∧ ann.keep 163 = false := ⟨rfl, rfl, rfl, rfl, rfl⟩
theorem a164 : ann.recov 164 = false ∧ ann.reg 164 = reg164 ∧ ann.keep 164 = false := ⟨rfl, rfl, rfl⟩
theorem a165 : ann.recov 165 = false ∧ ann.reg 165 = reg165 ∧ ann.keep 165 = false := ⟨rfl, rfl, rfl⟩
theorem a166 : ann.recov 166 = false ∧ ann.reg 166 = reg166 ∧ ann.keep 166 = false := ⟨rfl, rfl, rfl⟩
theorem a168 : ann.recov 168 = false ∧ ann.draw 168 = draw168 ∧ ann.dok 168 = dok168 ∧ ann.reg 168 = reg168 ∧ ann.loop 168 = loop168 ∧ ann.keep 168 = false := ⟨rfl, rfl, rfl, rfl, rfl, rfl⟩
theorem a169 : ann.recov 169 = false ∧ ann.reg 169 = reg169 ∧ ann.keep 169 = false := ⟨rfl, rfl, rfl⟩
theorem a170 : ann.recov 170 = false ∧ ann.reg 170 = reg170 ∧ ann.keep 170 = false := ⟨rfl, rfl, rfl⟩
theorem a171 : ann.recov 171 = false ∧ ann.reg 171 = reg171 ∧ ann.keep 171 = false := ⟨rfl, rfl, rfl⟩
theorem a172 : ann.recov 172 = false ∧ ann.reg 172 = reg172 ∧ ann.keep 172 = false := ⟨rfl, rfl, rfl⟩
theorem a173 : ann.recov 173 = false ∧ ann.reg 173 = reg173 ∧ ann.loop 173 = loop173 ∧ ann.keep 173 = false := ⟨rfl, rfl, rfl, rfl⟩
theorem a174 : ann.recov 174 = false ∧ ann.reg 174 = reg174 ∧ ann.keep 174 = false := ⟨rfl, rfl, rfl⟩
theorem a175 : ann.recov 175 = false ∧ ann.reg 175 = reg175 ∧ ann.keep 175 = false := ⟨rfl, rfl, rfl⟩
theorem a176 : ann.recov 176 = false ∧ ann.reg 176 = reg176 ∧ ann.keep 176 = false := ⟨rfl, rfl, rfl⟩
theorem a177 : ann.recov 177 = false ∧ ann.reg 177 = reg177 ∧ ann.keep 177 = false := ⟨rfl, rfl, rfl⟩
theorem a178 : ann.recov 178 = false ∧ ann.reg 178 = reg178 ∧ ann.keep 178 = false := ⟨rfl, rfl, rfl⟩
theorem a180 : ann.recov 180 = false ∧ ann.draw 180 = draw180 ∧ ann.dok 180 = dok180 ∧ ann.reg 180 = reg180 ∧ ann.keep 180 = false := ⟨rfl, rfl, rfl, rfl, rfl⟩
theorem a181 : ann.recov 181 = false ∧ ann.reg 181 = reg181 ∧ ann.keep 181 = false := ⟨rfl, rfl, rfl⟩
theorem a182 : ann.recov 182 = false ∧ ann.reg 182 = reg182 ∧ ann.loop 182 = loop182 ∧ ann.keep 182 = false := ⟨rfl, rfl, rfl, rfl⟩
theorem a183 : ann.recov 183 = false ∧ ann.reg 183 = reg183 ∧ ann.keep 183 = false := ⟨rfl, rfl, rfl⟩
end AE
end Go.Proofs.YthoomlenmgdebaaGreatDoor
