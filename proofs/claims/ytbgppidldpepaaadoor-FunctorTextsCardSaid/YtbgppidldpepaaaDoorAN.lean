/- Printed by wip/ann.py: which slots live on behind each region and at each loop's head. Annotations alone: the evaluator is sound whatever they say. -/
import Derived.Test.YtbgppidldpepaaaDoorAE1
set_option linter.unusedVariables false
namespace Go.Proofs.YtbgppidldpepaaaDoor
namespace AE
def reg2 : Nat → Option (List Nat)
  | 0 => some []
  | _ => none
def reg3 : Nat → Option (List Nat)
  | 0 => some [1, 2, 3]
  | 1 => some [1, 2, 3, 23]
  | 2 => some [6]
  | 3 => some [1, 3, 25]
  | 4 => some [1, 3, 7]
  | 5 => some [1, 3, 7, 28, 29]
  | 6 => some [1, 3, 7, 28, 29, 30]
  | 7 => some [1, 3, 7, 8, 28, 29]
  | 8 => some [1, 3, 7, 28, 29]
  | 9 => some [1, 3, 7, 28, 29]
  | 10 => some [1, 3]
  | 11 => some [1, 3, 9, 10]
  | 12 => some [1, 3, 9, 10, 11]
  | 13 => some [1, 3, 9, 10, 11, 47]
  | 14 => some [1, 3, 9, 10, 11]
  | 15 => some [1, 3, 9, 10, 11, 12, 13]
  | 16 => some [3, 9, 10, 11, 12, 13, 14, 15]
  | 17 => some [6]
  | _ => none
def loop3 : Nat → Option (List Nat)
  | 6 => some [1, 3, 7, 28, 29]
  | _ => none
def reg4 : Nat → Option (List Nat)
  | 0 => some [1, 2]
  | 1 => some [4]
  | _ => none
def reg5 : Nat → Option (List Nat)
  | 0 => some []
  | 1 => some [1, 2]
  | 2 => some [1, 2, 3, 4]
  | 3 => some [1, 2, 3, 4, 5, 6]
  | 4 => some [1, 2, 3, 4, 5, 6, 8]
  | 5 => some [1, 2, 3, 4, 5, 6, 8, 10]
  | 6 => some [2, 3, 4, 5, 6, 8, 10, 11, 12]
  | 7 => some [0]
  | _ => none
def reg6 : Nat → Option (List Nat)
  | 0 => some [1]
  | 1 => some [1, 6]
  | 2 => some [2, 3]
  | 3 => some [2, 3]
  | _ => none
def reg7 : Nat → Option (List Nat)
  | 0 => some [1]
  | 1 => some [4]
  | 2 => some [2]
  | 3 => some [2]
  | _ => none
def reg8 : Nat → Option (List Nat)
  | 0 => some [1]
  | 1 => some [1, 4]
  | 2 => some [1, 4, 5]
  | 3 => some [2]
  | 4 => some [1, 19]
  | 5 => some [2]
  | 6 => some [2]
  | _ => none
def reg9 : Nat → Option (List Nat)
  | 0 => some [0, 2, 3]
  | 1 => some [0, 2, 3, 7]
  | 2 => some [2, 3]
  | 3 => some [0, 2, 3]
  | 4 => some [2, 3, 4]
  | 5 => some [2, 3, 4]
  | 6 => some [2, 3, 24]
  | 7 => some [2, 3]
  | 8 => some [2, 3, 28]
  | 9 => some [2, 3]
  | 10 => some [2, 3]
  | _ => none
def reg10 : Nat → Option (List Nat)
  | 0 => some [0, 2]
  | 1 => some [0, 2, 10]
  | 2 => some [2, 3]
  | 3 => some [2, 4, 5]
  | 4 => some [2, 4, 18]
  | 5 => some [2, 3]
  | 6 => some [2, 6]
  | 7 => some [2, 6, 7]
  | 8 => some [2, 7, 25]
  | 9 => some [2, 3]
  | 10 => some [2, 7, 39]
  | 11 => some [2, 3]
  | 12 => some [2, 3]
  | _ => none
def reg11 : Nat → Option (List Nat)
  | 0 => some [2, 3]
  | 1 => some [2, 3, 26]
  | 2 => some [4]
  | 3 => some [2, 3, 29, 30]
  | 4 => some [2, 3, 29, 30, 31]
  | 5 => some [2, 3, 5, 29, 30]
  | 6 => some [2, 3, 29, 30, 44]
  | 7 => some [4]
  | 8 => some [2, 3, 29, 30]
  | 9 => some [4]
  | _ => none
def loop11 : Nat → Option (List Nat)
  | 4 => some [2, 3, 29, 30]
  | _ => none
def reg12 : Nat → Option (List Nat)
  | 0 => some [1, 2]
  | 1 => some [1, 2]
  | 2 => some [1, 2, 5]
  | 3 => some [1, 2, 5, 16]
  | 4 => some [1, 2, 5]
  | 5 => some [1, 2, 5]
  | 6 => some [4]
  | _ => none
def loop12 : Nat → Option (List Nat)
  | 3 => some [1, 2, 5]
  | _ => none
def reg13 : Nat → Option (List Nat)
  | 0 => some [1]
  | 1 => some [1, 6]
  | 2 => some [2, 3]
  | 3 => some [2, 3]
  | _ => none
def reg14 : Nat → Option (List Nat)
  | 0 => some [1]
  | 1 => some [1, 3]
  | 2 => some [2]
  | _ => none
def reg15 : Nat → Option (List Nat)
  | 0 => some [1, 2]
  | 1 => some [1, 2, 9]
  | 2 => some [1, 2, 9, 10]
  | 3 => some [4]
  | 4 => some [1, 2, 9, 12]
  | 5 => some [4]
  | 6 => some [1, 2, 9, 17]
  | 7 => some [1, 2, 9, 17]
  | 8 => some [1, 2, 5]
  | 9 => some [1, 2, 5, 22]
  | 10 => some [1, 2, 5]
  | 11 => some [1, 6]
  | 12 => some [6, 36]
  | 13 => some [4]
  | 14 => some [4]
  | 15 => some [2, 41]
  | 16 => some [2, 7]
  | 17 => some [2, 7, 53]
  | 18 => some [2, 7]
  | 19 => some [4]
  | 20 => some [4]
  | _ => none
def reg16 : Nat → Option (List Nat)
  | 0 => some [1]
  | 1 => some [1, 7]
  | 2 => some [2]
  | 3 => some [1, 4]
  | 4 => some [2]
  | _ => none
def reg17 : Nat → Option (List Nat)
  | 0 => some [1]
  | 1 => some [1, 5]
  | 2 => some [1, 5, 6]
  | 3 => some [2]
  | 4 => some [1, 5, 8]
  | 5 => some [2]
  | 6 => some [1, 5, 13]
  | 7 => some [1, 3]
  | 8 => some [1, 3, 25]
  | 9 => some [1, 3]
  | 10 => some [2]
  | 11 => some [1, 5, 35]
  | 12 => some [2]
  | 13 => some [1, 5, 44]
  | 14 => some [2]
  | 15 => some [1, 53]
  | 16 => some [2]
  | 17 => some [2]
  | _ => none
def reg18 : Nat → Option (List Nat)
  | 0 => some [0, 1, 2]
  | 1 => some [0, 1, 2, 7]
  | 2 => some [0, 1, 2, 4]
  | 3 => some [0, 1, 2, 14]
  | 4 => some [0, 1]
  | 5 => some []
  | _ => none
def reg19 : Nat → Option (List Nat)
  | 0 => some [0, 2]
  | 1 => some [0, 2, 3]
  | 2 => some [0, 2, 3, 6]
  | 3 => some [2]
  | 4 => some [0, 2, 3, 14]
  | 5 => some [2]
  | 6 => some [2]
  | _ => none
def reg20 : Nat → Option (List Nat)
  | 0 => some [0]
  | 1 => some [0]
  | 2 => some [0, 15]
  | 3 => some [2]
  | 4 => some [2]
  | _ => none
def reg21 : Nat → Option (List Nat)
  | 0 => some [0, 1]
  | 1 => some [0, 1, 6]
  | 2 => some [0, 1, 6, 7]
  | 3 => some [0, 1, 6, 7, 12]
  | 4 => some [0, 1, 6, 7, 8]
  | 5 => some [0, 1, 6, 7, 8, 15]
  | 6 => some [0, 1, 6, 7]
  | 7 => some [0, 1, 6, 7, 8, 22]
  | 8 => some [0, 1, 6, 7, 8, 36]
  | 9 => some [0, 1, 6, 7, 8]
  | 10 => some [0, 1, 6, 7, 8, 39]
  | 11 => some [4, 5]
  | 12 => some [0, 1, 6, 8]
  | 13 => some [0, 1, 6, 7]
  | 14 => some [4, 5]
  | _ => none
def loop21 : Nat → Option (List Nat)
  | 3 => some [0, 1, 6, 7]
  | 8 => some [0, 1, 6, 7, 8]
  | _ => none
def reg22 : Nat → Option (List Nat)
  | 0 => some [0, 2]
  | 1 => some [0, 2, 3]
  | 2 => some [0, 2, 3, 9, 10, 11]
  | 3 => some [0, 2, 3, 9, 10, 11, 12]
  | 4 => some [0, 2, 3, 5, 9, 10, 11]
  | 5 => some [0, 2, 3, 5, 9, 10, 11, 17]
  | 6 => some [0, 2, 3, 5]
  | 7 => some [0, 2, 3, 5, 6]
  | 8 => some [0, 2, 3, 6, 22]
  | 9 => some [0, 2, 3, 6]
  | 10 => some [2]
  | 11 => some [0, 2, 3, 9, 10, 11]
  | 12 => some [2]
  | _ => none
def loop22 : Nat → Option (List Nat)
  | 3 => some [0, 2, 3, 9, 10, 11]
  | _ => none
def reg23 : Nat → Option (List Nat)
  | 0 => some [2, 3]
  | 1 => some [4]
  | _ => none
def reg24 : Nat → Option (List Nat)
  | 0 => some [0]
  | 1 => some [2]
  | _ => none
def reg25 : Nat → Option (List Nat)
  | 0 => some [1, 2, 3]
  | 1 => some [1, 2, 3]
  | 2 => some [1, 2, 3, 43]
  | 3 => some [6]
  | 4 => some [1, 2, 3, 7]
  | 5 => some [1, 2, 3, 59]
  | 6 => some [6]
  | 7 => some [1, 2, 61, 62, 63]
  | 8 => some [1, 2, 61, 62, 63, 64]
  | 9 => some [1, 2, 9, 61, 62, 63]
  | 10 => some [1, 2, 61, 62, 63, 72]
  | 11 => some [6]
  | 12 => some [1, 2, 61, 62, 63]
  | 13 => some [6]
  | _ => none
def loop25 : Nat → Option (List Nat)
  | 8 => some [1, 2, 61, 62, 63]
  | _ => none
def reg26 : Nat → Option (List Nat)
  | 0 => some [0]
  | 1 => some [2]
  | _ => none
def reg27 : Nat → Option (List Nat)
  | 0 => some [1, 3]
  | 1 => some [1, 2, 3]
  | 2 => some [2, 3, 9, 10, 11]
  | 3 => some [2, 3, 9, 10, 11, 12]
  | 4 => some [2, 3, 5, 9, 10, 11]
  | 5 => some [2, 3, 6, 7, 9, 10, 11]
  | 6 => some [2, 3, 9, 10, 11]
  | 7 => some [2, 3, 9, 10, 11]
  | 8 => some [2, 3]
  | _ => none
def loop27 : Nat → Option (List Nat)
  | 3 => some [2, 3, 9, 10, 11]
  | _ => none
def reg28 : Nat → Option (List Nat)
  | 0 => some [1]
  | 1 => some [1, 3]
  | 2 => some [1, 30]
  | 3 => some [2]
  | 4 => some [32, 33, 34]
  | 5 => some [32, 33, 34, 35]
  | 6 => some [5, 32, 33, 34]
  | 7 => some [32, 33, 34, 40]
  | 8 => some [2]
  | 9 => some [32, 33, 34]
  | 10 => some [2]
  | _ => none
def loop28 : Nat → Option (List Nat)
  | 5 => some [32, 33, 34]
  | _ => none
def reg29 : Nat → Option (List Nat)
  | 0 => some [0]
  | 1 => some [0, 3]
  | 2 => some [0, 3, 10]
  | 3 => some [2]
  | 4 => some [2]
  | _ => none
def reg30 : Nat → Option (List Nat)
  | 0 => some [0, 2]
  | 1 => some [0, 2, 3]
  | 2 => some [0, 2, 3, 7]
  | 3 => some [2, 3]
  | 4 => some [2]
  | _ => none
def reg31 : Nat → Option (List Nat)
  | 0 => some [0, 1]
  | 1 => some [0, 8]
  | 2 => some [4]
  | 3 => some []
  | 4 => some [4]
  | _ => none
def reg32 : Nat → Option (List Nat)
  | 0 => some [0, 1]
  | 1 => some [0, 1, 12]
  | 2 => some [4]
  | 3 => some [0, 1, 21]
  | 4 => some [4]
  | 5 => some [0, 1, 5, 6]
  | 6 => some [0, 1, 5, 31]
  | 7 => some [4]
  | 8 => some [4]
  | _ => none
def reg33 : Nat → Option (List Nat)
  | 0 => some [0]
  | 1 => some [2]
  | _ => none
def reg34 : Nat → Option (List Nat)
  | 0 => some [0, 1]
  | 1 => some [0, 1, 5]
  | 2 => some [0, 1, 5, 9]
  | 3 => some [0, 1, 5]
  | 4 => some [0, 1, 5, 16]
  | 5 => some [4]
  | 6 => some [4]
  | _ => none
def loop34 : Nat → Option (List Nat)
  | 2 => some [0, 1, 5]
  | _ => none
def reg35 : Nat → Option (List Nat)
  | 0 => some [0, 2]
  | 1 => some [0, 2, 3]
  | 2 => some [0, 2, 3, 7]
  | 3 => some [0, 2, 3]
  | 4 => some [2]
  | 5 => some [2]
  | _ => none
def reg36 : Nat → Option (List Nat)
  | 0 => some [0, 1]
  | 1 => some [4]
  | _ => none
def reg37 : Nat → Option (List Nat)
  | 0 => some [0, 7]
  | 1 => some []
  | 2 => some []
  | _ => none
def reg38 : Nat → Option (List Nat)
  | 0 => some [0, 1, 2, 6]
  | 1 => some [6]
  | _ => none
def reg39 : Nat → Option (List Nat)
  | 0 => some [0, 1]
  | 1 => some [4]
  | _ => none
def reg40 : Nat → Option (List Nat)
  | 0 => some [1, 2]
  | 1 => some [3]
  | _ => none
def reg41 : Nat → Option (List Nat)
  | 0 => some [0]
  | 1 => some [2]
  | _ => none
def reg42 : Nat → Option (List Nat)
  | 0 => some [0]
  | 1 => some [3]
  | 2 => some [3, 4]
  | 3 => some [2]
  | 4 => some [6]
  | 5 => some [2]
  | 6 => some [2]
  | _ => none
def reg43 : Nat → Option (List Nat)
  | 0 => some [0]
  | 1 => some [3]
  | 2 => some [3, 4]
  | 3 => some [3, 4]
  | 4 => some [2]
  | 5 => some [3, 7]
  | 6 => some [3, 7]
  | 7 => some [3, 7]
  | 8 => some [3, 7]
  | 9 => some [2]
  | 10 => some [3, 12]
  | 11 => some [12]
  | 12 => some [2]
  | 13 => some [2]
  | _ => none
def reg44 : Nat → Option (List Nat)
  | 0 => some [1, 2]
  | 1 => some [1, 2, 3]
  | 2 => some [1, 2, 3, 4]
  | 3 => some [1, 2, 3, 4, 9]
  | 4 => some [1, 2, 3, 4, 9, 10]
  | 5 => some [2]
  | 6 => some [2]
  | 7 => some [1, 2, 3, 4, 9, 16]
  | 8 => some [1, 2]
  | 9 => some [1, 2, 5]
  | 10 => some [2, 5]
  | 11 => some [2]
  | 12 => some [1, 2, 3, 9, 26]
  | 13 => some [2]
  | 14 => some [1, 2, 3, 9, 30]
  | 15 => some [2]
  | 16 => some [1, 2, 3, 34]
  | 17 => some [2]
  | 18 => some [2]
  | _ => none
def reg45 : Nat → Option (List Nat)
  | 0 => some [0]
  | 1 => some [0]
  | 2 => some [0, 3]
  | 3 => some [0, 3, 33]
  | 4 => some [0, 3]
  | 5 => some [0, 3, 37]
  | 6 => some [0, 3]
  | 7 => some [0, 3, 4]
  | 8 => some [4]
  | 9 => some [4, 57]
  | 10 => some [2]
  | 11 => some [5, 6]
  | 12 => some [5, 64]
  | 13 => some [2]
  | 14 => some [2]
  | _ => none
def loop45 : Nat → Option (List Nat)
  | 3 => some [0, 3]
  | _ => none
def reg46 : Nat → Option (List Nat)
  | 0 => some [0, 1]
  | 1 => some [0, 1, 13]
  | 2 => some [0, 1]
  | 3 => some [4]
  | _ => none
def loop46 : Nat → Option (List Nat)
  | 1 => some [0, 1]
  | _ => none
def reg47 : Nat → Option (List Nat)
  | 0 => some [0, 2]
  | 1 => some [0, 2, 4]
  | 2 => some [0, 2, 4, 9]
  | 3 => some [0, 2, 4]
  | 4 => some [0, 2, 4, 5]
  | 5 => some [0, 2, 4, 5, 16]
  | 6 => some [2, 3]
  | 7 => some [0, 2, 4]
  | 8 => some [2, 3]
  | _ => none
def loop47 : Nat → Option (List Nat)
  | 2 => some [0, 2, 4]
  | _ => none
def reg48 : Nat → Option (List Nat)
  | 0 => some [0, 1]
  | 1 => some [0, 1, 7]
  | 2 => some [0, 1, 12]
  | 3 => some [0, 1]
  | 4 => some [4]
  | _ => none
def loop48 : Nat → Option (List Nat)
  | 1 => some [0, 1]
  | _ => none
def reg49 : Nat → Option (List Nat)
  | 0 => some [0, 1]
  | 1 => some [0, 1, 9]
  | 2 => some [0, 1, 5, 6]
  | 3 => some [0, 1, 6, 18]
  | 4 => some [0, 1]
  | 5 => some [4]
  | _ => none
def loop49 : Nat → Option (List Nat)
  | 1 => some [0, 1]
  | _ => none
def reg50 : Nat → Option (List Nat)
  | 0 => some [0, 2]
  | 1 => some [0, 2, 3]
  | 2 => some [0, 2, 3, 5]
  | 3 => some [2]
  | 4 => some [0, 2, 3, 11]
  | 5 => some [2]
  | 6 => some [2]
  | 7 => some [0, 2, 3, 17]
  | 8 => some [0, 2, 3]
  | 9 => some [0, 2, 3, 20]
  | 10 => some [0, 2, 3]
  | 11 => some [0, 2, 3, 23]
  | 12 => some [0, 2, 3]
  | 13 => some [0, 2, 3, 26]
  | 14 => some [2]
  | 15 => some [0, 2, 3, 35]
  | 16 => some [0, 2, 3]
  | 17 => some [0, 2, 3]
  | 18 => some [0, 2, 3, 4]
  | 19 => some [2, 3, 4]
  | 20 => some [2, 3, 4, 51]
  | 21 => some [2]
  | 22 => some [2]
  | _ => none
def reg51 : Nat → Option (List Nat)
  | 0 => some [0]
  | 1 => some [0, 3]
  | 2 => some [0, 3, 4]
  | 3 => some [0, 3, 4, 9]
  | 4 => some [0, 3, 4]
  | 5 => some [0, 3, 4, 5]
  | 6 => some [0, 3, 4, 5, 21]
  | 7 => some [2]
  | 8 => some [0, 3, 4]
  | 9 => some [2]
  | _ => none
def loop51 : Nat → Option (List Nat)
  | 3 => some [0, 3, 4]
  | _ => none
def reg52 : Nat → Option (List Nat)
  | 0 => some [0]
  | 1 => some [0, 20]
  | 2 => some []
  | 3 => some [2]
  | 4 => some [0, 3]
  | 5 => some [3]
  | 6 => some [2]
  | _ => none
def reg53 : Nat → Option (List Nat)
  | 0 => some [0, 1]
  | 1 => some [0, 1, 7, 8]
  | 2 => some [0, 1, 7, 8, 9]
  | 3 => some [0, 1, 5, 7, 8]
  | 4 => some [0, 1, 5, 7, 8, 16]
  | 5 => some [4]
  | 6 => some [0, 1, 7, 8]
  | 7 => some [4]
  | _ => none
def loop53 : Nat → Option (List Nat)
  | 2 => some [0, 1, 7, 8]
  | _ => none
def reg54 : Nat → Option (List Nat)
  | 0 => some [0, 1]
  | 1 => some [0, 1, 11]
  | 2 => some [0, 17]
  | 3 => some [4]
  | 4 => some [0, 5]
  | 5 => some [0, 5, 6]
  | 6 => some [0, 5, 6, 23]
  | 7 => some [0, 5, 6]
  | 8 => some [0, 5, 6, 7]
  | 9 => some [0, 5, 7]
  | 10 => some [5, 7, 34]
  | 11 => some [5, 7]
  | 12 => some [4]
  | 13 => some [4]
  | 14 => some [9]
  | 15 => some [4]
  | _ => none
def reg55 : Nat → Option (List Nat)
  | 0 => some [0, 1, 3]
  | 1 => some [0, 1, 3]
  | 2 => some [0, 1, 3]
  | 3 => some [0, 1, 3, 4]
  | 4 => some [0, 3, 4]
  | 5 => some [3]
  | _ => none
def reg56 : Nat → Option (List Nat)
  | 0 => some [7]
  | 1 => some []
  | _ => none
def reg57 : Nat → Option (List Nat)
  | 0 => some [0]
  | 1 => some [0, 4, 5]
  | 2 => some [0, 4, 5, 12]
  | 3 => some [2, 3]
  | 4 => some [2, 3]
  | _ => none
def reg58 : Nat → Option (List Nat)
  | 0 => some [0, 1]
  | 1 => some [4]
  | _ => none
def reg59 : Nat → Option (List Nat)
  | 0 => some [0]
  | 1 => some [0, 10]
  | 2 => some [2, 3]
  | 3 => some [2, 3]
  | _ => none
def reg60 : Nat → Option (List Nat)
  | 0 => some [0, 1]
  | 1 => some [4]
  | _ => none
def reg61 : Nat → Option (List Nat)
  | 0 => some [0]
  | 1 => some [0, 4]
  | 2 => some [2]
  | 3 => some [2]
  | _ => none
def reg62 : Nat → Option (List Nat)
  | 0 => some [0]
  | 1 => some [0, 3]
  | 2 => some [2]
  | _ => none
def reg63 : Nat → Option (List Nat)
  | 0 => some [0, 1, 4]
  | 1 => some [0, 1, 4, 20]
  | 2 => some [0, 1, 4, 5]
  | 3 => some [0, 1, 4, 5]
  | 4 => some [0, 1, 4, 6, 7]
  | 5 => some [0, 1, 4, 6, 8, 9]
  | 6 => some [0, 1, 4, 8, 9, 10, 11]
  | 7 => some [0, 1, 4, 8, 10, 11]
  | 8 => some [0, 1, 4, 10, 11]
  | 9 => some [0, 1, 4, 10]
  | 10 => some [0, 1, 4]
  | 11 => some [0, 1, 4]
  | 12 => some [0, 4, 12]
  | 13 => some [0, 4, 12, 99]
  | 14 => some [0, 4, 12, 13]
  | 15 => some [0, 4, 12, 13]
  | 16 => some [0, 4, 12, 14, 15]
  | 17 => some [0, 4, 12, 14]
  | 18 => some [0, 4, 12]
  | 19 => some [0, 4, 12]
  | 20 => some [0, 4, 12, 139]
  | 21 => some [0, 4, 12, 16]
  | 22 => some [0, 4, 12, 16]
  | 23 => some [0, 4, 12]
  | 24 => some [0, 4, 12]
  | 25 => some [0, 12, 161]
  | 26 => some []
  | _ => none
def loop63 : Nat → Option (List Nat)
  | 1 => some [0, 1, 4]
  | _ => none
def reg64 : Nat → Option (List Nat)
  | 0 => some [0, 1, 2, 3, 4, 10, 11]
  | 1 => some [0, 1, 2, 3, 4, 10, 11, 28]
  | 2 => some [0, 1, 2, 3, 4, 10, 11]
  | 3 => some [0, 1, 2, 3, 4, 10, 11, 12]
  | 4 => some [0, 1, 2, 3, 4, 10, 11, 12, 13]
  | 5 => some [0, 1, 2, 3, 4, 10, 11, 12, 13, 30]
  | 6 => some [0, 1, 2, 3, 4, 10, 11, 12, 13]
  | 7 => some [0, 1, 2, 3, 4, 10, 11, 12, 13, 34]
  | 8 => some [0, 1, 2, 3, 4, 10, 11, 12, 13, 14]
  | 9 => some [0, 1, 2, 3, 4, 10, 11, 12, 13, 14, 15]
  | 10 => some [0, 1, 3, 4, 10, 11, 12, 13, 14, 15, 16]
  | 11 => some [0, 1, 3, 4, 10, 11, 12, 13, 14, 15, 16, 46]
  | 12 => some [0, 1, 3, 4, 10, 11, 12, 13, 14, 15, 16]
  | 13 => some [0, 1, 3, 4, 10, 11, 12, 13, 14, 15, 16]
  | 14 => some [0, 1, 3, 4, 10, 11, 12, 13, 14, 15, 16]
  | 15 => some [0, 1, 3, 4, 10, 11, 12, 13]
  | 16 => some [0, 3, 4, 10, 11, 12, 13]
  | 17 => some [0, 1, 3, 4, 10, 11, 12, 13, 17]
  | 18 => some [0, 1, 3, 4, 10, 11, 12, 13, 17, 68]
  | 19 => some [0, 1, 3, 4, 10, 11, 12, 13, 17]
  | 20 => some [0, 1, 3, 4, 10, 11, 12, 13, 17, 18]
  | 21 => some [0, 3, 4, 10, 11, 12, 13, 17, 18]
  | 22 => some [0, 1, 3, 4, 10, 11, 12, 13, 17]
  | 23 => some [0, 1, 3, 4, 10, 11, 12, 13]
  | 24 => some [0, 3, 4, 10, 11, 12, 13]
  | 25 => some [0, 4, 10, 11, 12, 13, 89]
  | 26 => some [0, 4, 10, 11, 12, 13]
  | 27 => some [0, 4, 10, 11, 12, 13]
  | 28 => some [0, 10, 11, 12, 13, 94]
  | 29 => some [10, 11]
  | 30 => some [10, 11]
  | _ => none
def loop64 : Nat → Option (List Nat)
  | 11 => some [0, 1, 3, 4, 10, 11, 12, 13, 14, 15, 16]
  | 18 => some [0, 1, 3, 4, 10, 11, 12, 13, 17]
  | _ => none
def reg65 : Nat → Option (List Nat)
  | 0 => some [0]
  | 1 => some [0, 4]
  | 2 => some [0, 30]
  | 3 => some [0, 5]
  | 4 => some [0, 5, 39]
  | 5 => some [0, 5]
  | 6 => some [0, 5, 44]
  | 7 => some [2, 3]
  | 8 => some [0, 5, 6]
  | 9 => some [5, 6, 47, 48, 49]
  | 10 => some [5, 6, 47, 48, 49, 50]
  | 11 => some [5, 6, 8, 47, 48, 49]
  | 12 => some [5, 6, 8, 47, 48, 49]
  | 13 => some [5, 6, 8, 47, 48, 49, 56]
  | 14 => some [2, 3]
  | 15 => some [5, 6, 47, 48, 49]
  | 16 => some [5, 6, 47, 48, 49]
  | 17 => some [6, 66]
  | 18 => some [6]
  | 19 => some [2, 3]
  | 20 => some [9, 10]
  | 21 => some [2, 3]
  | _ => none
def loop65 : Nat → Option (List Nat)
  | 10 => some [5, 6, 47, 48, 49]
  | _ => none
def reg66 : Nat → Option (List Nat)
  | 0 => some [0, 1, 2, 3, 4]
  | 1 => some [0, 1, 2, 3, 4, 11]
  | 2 => some [0, 1, 2, 3, 4, 11, 12]
  | 3 => some [10]
  | 4 => some [0, 1, 2, 3, 4, 11, 19]
  | 5 => some [10]
  | 6 => some [0, 1, 2, 3, 4, 11, 26]
  | 7 => some [10]
  | 8 => some [0, 1, 3, 4, 34]
  | 9 => some [10]
  | 10 => some [10]
  | _ => none
def reg67 : Nat → Option (List Nat)
  | 0 => some [0]
  | 1 => some [0, 4]
  | 2 => some [0, 4, 16]
  | 3 => some [2, 3]
  | 4 => some [0, 4, 5]
  | 5 => some [0, 4, 5, 6]
  | 6 => some [0, 4, 5, 6, 23]
  | 7 => some [0, 7]
  | 8 => some [2, 3]
  | 9 => some [0, 4, 5, 6, 8]
  | 10 => some [0, 4, 5, 8, 9]
  | 11 => some [0, 5, 8, 9, 45]
  | 12 => some [2, 3]
  | 13 => some [0, 5, 8, 9, 10]
  | 14 => some [0, 5, 8, 10, 57]
  | 15 => some [2, 3]
  | 16 => some [0, 5, 8, 10, 59]
  | 17 => some [2, 3]
  | 18 => some [0, 5, 8, 10, 11]
  | 19 => some [0, 5, 8, 10, 11, 75]
  | 20 => some [2, 3]
  | 21 => some [0, 5, 10, 11, 77]
  | 22 => some [2, 3]
  | 23 => some [5, 10, 11, 12]
  | 24 => some [5, 10, 11, 12, 98]
  | 25 => some [2, 3]
  | 26 => some [2, 3]
  | _ => none
def reg69 : Nat → Option (List Nat)
  | 0 => some [0]
  | 1 => some [2]
  | _ => none
def reg70 : Nat → Option (List Nat)
  | 0 => some [0, 2]
  | 1 => some [0, 2, 4]
  | 2 => some [0]
  | 3 => some [0, 2]
  | 4 => some [0, 2, 8]
  | 5 => some [0, 2]
  | 6 => some [0, 2]
  | 7 => some [0, 2, 14]
  | 8 => some [0, 2]
  | 9 => some [0, 2]
  | 10 => some [2]
  | _ => none
def reg71 : Nat → Option (List Nat)
  | 0 => some [0]
  | 1 => some [3]
  | 2 => some [2]
  | 3 => some [2]
  | _ => none
def reg72 : Nat → Option (List Nat)
  | 0 => some [0]
  | 1 => some [2]
  | _ => none
def reg73 : Nat → Option (List Nat)
  | 0 => some [0]
  | 1 => some [2]
  | 2 => some [2]
  | _ => none
def reg74 : Nat → Option (List Nat)
  | 0 => some [0, 1, 2]
  | 1 => some [0, 1, 2, 13]
  | 2 => some [6, 7]
  | 3 => some [0, 1, 2, 8]
  | 4 => some [0, 1, 2, 8, 16]
  | 5 => some [0, 1, 2, 8, 16, 17]
  | 6 => some [0, 1, 2, 8]
  | 7 => some [0, 1, 2, 8, 21]
  | 8 => some [0, 1, 2]
  | 9 => some [0, 1, 2, 8]
  | 10 => some [0, 1, 2, 8]
  | 11 => some [2, 7, 8, 9]
  | 12 => some [2, 7, 8, 9, 38]
  | 13 => some [6, 7]
  | 14 => some [2, 8, 9, 41]
  | 15 => some [2, 8, 9]
  | 16 => some [8, 9, 10]
  | 17 => some [8, 9, 10, 52]
  | 18 => some [6, 7]
  | 19 => some [8, 9, 10, 62]
  | 20 => some [6, 7]
  | 21 => some [8, 11]
  | 22 => some [11, 69]
  | 23 => some [11]
  | 24 => some [6, 7]
  | _ => none
def reg75 : Nat → Option (List Nat)
  | 0 => some [0, 1]
  | 1 => some [4]
  | _ => none
def reg76 : Nat → Option (List Nat)
  | 0 => some [0, 1]
  | 1 => some [4]
  | _ => none
def reg77 : Nat → Option (List Nat)
  | 0 => some [0, 1, 2]
  | 1 => some [6]
  | _ => none
def reg78 : Nat → Option (List Nat)
  | 0 => some [0, 1, 2]
  | 1 => some [6]
  | _ => none
def reg79 : Nat → Option (List Nat)
  | 0 => some [0, 1]
  | 1 => some [4]
  | _ => none
def reg80 : Nat → Option (List Nat)
  | 0 => some [0]
  | 1 => some [0, 3]
  | 2 => some [2]
  | 3 => some [10]
  | 4 => some [2]
  | 5 => some [2]
  | _ => none
def reg81 : Nat → Option (List Nat)
  | 0 => some [0]
  | 1 => some [2]
  | _ => none
def reg83 : Nat → Option (List Nat)
  | 0 => some [0]
  | 1 => some [0, 4]
  | 2 => some [2]
  | 3 => some [2]
  | _ => none
def reg84 : Nat → Option (List Nat)
  | 0 => some [0]
  | 1 => some [0, 4]
  | 2 => some [2]
  | 3 => some [2]
  | _ => none
def reg85 : Nat → Option (List Nat)
  | 0 => some [0, 1, 2]
  | 1 => some [0, 1, 2, 19]
  | 2 => some [6, 7]
  | 3 => some [0, 1, 2, 8]
  | 4 => some [0, 1, 2, 8, 9]
  | 5 => some [6, 7]
  | 6 => some [0, 1, 2, 8, 9, 25]
  | 7 => some [0, 2, 8, 9, 32]
  | 8 => some [0, 1, 2, 8, 9]
  | 9 => some [0, 1, 2, 8, 9, 37]
  | 10 => some [0, 1, 2, 8, 9]
  | 11 => some [0, 1, 2, 8, 9]
  | 12 => some [0, 2, 8, 9, 40]
  | 13 => some [0, 1, 2, 8, 9]
  | 14 => some [0, 1, 2, 8, 9]
  | 15 => some [0, 2, 8, 9, 52]
  | 16 => some [0, 1, 2, 8, 9]
  | 17 => some [0, 1, 2, 8, 9]
  | 18 => some [0, 2, 8, 9, 64]
  | 19 => some [0, 1, 2, 8, 9]
  | 20 => some [0, 1, 2, 8, 9]
  | 21 => some [0, 1, 2, 8, 9, 77]
  | 22 => some [0, 1, 2, 8, 9]
  | 23 => some [0, 1, 2, 8, 9, 83]
  | 24 => some [6, 7]
  | 25 => some [0, 1, 2, 8, 9]
  | 26 => some [0, 1, 2, 8, 9, 85]
  | 27 => some [0, 1, 2, 8, 9, 10]
  | 28 => some [0, 1, 2, 8, 9, 85, 90]
  | 29 => some [0, 1, 2, 8, 9, 10]
  | 30 => some [0, 1, 2, 8, 9, 92]
  | 31 => some [0, 1, 2, 8, 9, 10]
  | 32 => some [0, 1, 8, 9, 10, 11]
  | 33 => some [0, 1, 8, 9, 10, 11, 12]
  | 34 => some [0, 1, 8, 9, 10, 11, 12, 13]
  | 35 => some [1, 8, 9, 10, 11, 12, 13, 99, 100, 101]
  | 36 => some [1, 8, 9, 10, 11, 12, 13, 99, 100, 101, 102]
  | 37 => some [1, 8, 9, 10, 11, 12, 13, 15, 99, 100, 101]
  | 38 => some [1, 8, 9, 10, 11, 12, 13, 15, 99, 100, 101]
  | 39 => some [6, 7]
  | 40 => some [1, 8, 9, 10, 11, 12, 13, 15, 99, 100, 101, 106]
  | 41 => some [1, 8, 9, 10, 11, 12, 13, 99, 100, 101]
  | 42 => some [1, 8, 9, 10, 11, 12, 13, 15, 99, 100, 101, 112]
  | 43 => some [1, 8, 9, 10, 11, 12, 13, 16, 99, 100, 101]
  | 44 => some [1, 8, 9, 10, 11, 12, 13, 15, 99, 100, 101, 121]
  | 45 => some [1, 8, 9, 10, 11, 12, 13, 16, 99, 100, 101]
  | 46 => some [1, 8, 9, 10, 11, 12, 13, 16, 99, 100, 101, 137]
  | 47 => some [6, 7]
  | 48 => some [1, 8, 9, 10, 11, 12, 13, 16, 99, 100, 101, 141]
  | 49 => some [6, 7]
  | 50 => some [1, 8, 9, 10, 11, 12, 13, 16, 99, 100, 101]
  | 51 => some [1, 8, 9, 10, 11, 12, 13, 17, 99, 100, 101]
  | 52 => some [1, 8, 9, 10, 11, 12, 17, 99, 100, 101, 159]
  | 53 => some [6, 7]
  | 54 => some [1, 8, 9, 10, 11, 12, 13, 99, 100, 101]
  | 55 => some [1, 8, 9, 10, 11, 12, 13, 99, 100, 101]
  | 56 => some [13, 169]
  | 57 => some [6, 7]
  | 58 => some [6, 7]
  | _ => none
def loop85 : Nat → Option (List Nat)
  | 36 => some [1, 8, 9, 10, 11, 12, 13, 99, 100, 101]
  | _ => none
def reg86 : Nat → Option (List Nat)
  | 0 => some [0]
  | 1 => some [0, 6]
  | 2 => some [2]
  | 3 => some [0, 3]
  | 4 => some [3]
  | 5 => some [2]
  | _ => none
def reg87 : Nat → Option (List Nat)
  | 0 => some [0]
  | 1 => some [2]
  | _ => none
def reg88 : Nat → Option (List Nat)
  | 0 => some [0, 1]
  | 1 => some [4]
  | _ => none
def reg89 : Nat → Option (List Nat)
  | 0 => some [0]
  | 1 => some [2]
  | _ => none
def reg90 : Nat → Option (List Nat)
  | 0 => some [0]
  | 1 => some [0, 3]
  | 2 => some [0, 3, 4]
  | 3 => some [0, 3, 4, 18]
  | 4 => some [0, 3, 4]
  | 5 => some [0, 3, 4, 5]
  | 6 => some [0, 3, 4, 5, 46]
  | 7 => some [0, 4]
  | 8 => some [0, 3, 4]
  | 9 => some [0, 3, 4, 5]
  | 10 => some [0, 3, 4, 5, 54]
  | 11 => some [0, 3, 4, 5]
  | 12 => some [0, 3, 4, 5, 83]
  | 13 => some [0, 3, 4, 5]
  | 14 => some [0, 3, 4, 5, 87]
  | 15 => some [0, 4, 5, 89]
  | 16 => some [2]
  | 17 => some [0, 3, 4, 5]
  | 18 => some [0, 4, 5, 91]
  | 19 => some [2]
  | 20 => some [0, 3, 4, 5]
  | 21 => some [2]
  | _ => none
def loop90 : Nat → Option (List Nat)
  | 10 => some [0, 3, 4, 5]
  | _ => none
def reg121 : Nat → Option (List Nat)
  | 0 => some []
  | 1 => some []
  | 2 => some []
  | 3 => some []
  | 4 => some []
  | 5 => some []
  | 6 => some []
  | _ => none
def draw8 : Nat → DrawAnn
  | 3 => ⟨[[], [0], [0, 1], [0, 1, 2], [0, 1, 2, 3], [0, 1, 2, 3, 4], [], [6], [6, 7], [6, 7, 8], [0, 1, 2, 3, 4, 6, 7, 8, 9], [0, 1, 2, 3, 4, 5, 6, 7, 8, 9, 10], [0, 1, 2, 3, 4, 5, 6, 7, 8, 9, 10, 11]], [(1, [4], false), (3, [4], false), (7, [4, 10], false), (9, [4, 10], false)]⟩
  | 5 => ⟨[[], [0], [0, 1], [0, 1, 2], [0, 1, 2, 3], [0, 1, 2, 3, 4], [], [6], [6, 7], [6, 7, 8], [0, 1, 2, 3, 4, 6, 7, 8, 9], [0, 1, 2, 3, 4, 5, 6, 7, 8, 9, 10], [0, 1, 2, 3, 4, 5, 6, 7, 8, 9, 10, 11]], [(1, [4], false), (3, [4], false), (7, [4, 10], false), (9, [4, 10], false)]⟩
  | _ => ⟨[], []⟩
def dok8 : Nat → Bool
  | 3 => true
  | 5 => true
  | _ => false
def draw11 : Nat → DrawAnn
  | 6 => ⟨[[], [0], [], [0, 1, 2], [0, 1, 2, 3], [], [5], [], [5, 6, 7], [5, 6, 7, 8], [0, 1, 2, 3, 4, 5, 6, 7, 8, 9], [0, 1, 2, 3, 4, 5, 6, 7, 8, 9, 10]], [(1, [10], false), (4, [10], false), (6, [10], false), (9, [10], false)]⟩
  | _ => ⟨[], []⟩
def dok11 : Nat → Bool
  | 6 => true
  | _ => false
def draw15 : Nat → DrawAnn
  | 11 => ⟨[[], [0], [0, 1], [0, 1, 2], [0, 1, 2, 3], [], [0, 1, 2, 3, 4, 5], [], [7], [7, 8], [7, 8, 9], [0, 1, 2, 3, 4, 7, 8, 9, 10], [0, 1, 2, 3, 4, 5, 6, 7, 8, 9, 10, 11], [0, 1, 2, 3, 4, 5, 6, 7, 8, 9, 10, 11, 12]], [(1, [4], false), (3, [4], false), (8, [4, 11], false), (10, [4, 11], false)]⟩
  | 20 => ⟨[[], [0], [0, 1], [], [3], [3, 4], [3, 4, 5], [0, 1, 2, 3, 4, 5, 6], [0, 1, 2, 3, 4, 5, 6, 7], [], [9], [9, 10], [9, 10, 11], [9, 10, 11, 12], [0, 1, 2, 3, 4, 5, 6, 7, 8, 9, 10, 11, 12, 13], [0, 1, 2, 3, 4, 5, 6, 7, 8, 9, 10, 11, 12, 13, 14], [0, 1, 2, 3, 4, 5, 6, 7, 8, 9, 10, 11, 12, 13, 14, 15]], [(1, [13], true), (4, [13], true), (10, [13], false), (12, [13], false)]⟩
  | _ => ⟨[], []⟩
def dok15 : Nat → Bool
  | 11 => true
  | 20 => true
  | _ => false
def draw19 : Nat → DrawAnn
  | 3 => ⟨[[], [], [1], [0, 1, 2], [0, 1, 2, 3], [0, 1, 2, 3, 4]], [(0, [2, 5], false)]⟩
  | 5 => ⟨[[], [], [1], [0, 1, 2], [0, 1, 2, 3], [0, 1, 2, 3, 4]], [(0, [2, 5], false)]⟩
  | _ => ⟨[], []⟩
def dok19 : Nat → Bool
  | 3 => true
  | 5 => true
  | _ => false
def draw22 : Nat → DrawAnn
  | 10 => ⟨[[], [], [], [2], [1, 2, 3], [0, 1, 2, 3, 4], [0, 1, 2, 3, 4, 5]], [(1, [3, 5], false)]⟩
  | _ => ⟨[], []⟩
def dok22 : Nat → Bool
  | 10 => true
  | _ => false
def draw25 : Nat → DrawAnn
  | 2 => ⟨[[], [0], [0, 1], [0, 1, 2], [0, 1, 2, 3], [0, 1, 2, 3, 4], [0, 1, 2, 3, 4, 5], [0, 1, 2, 3, 4, 5, 6], [0, 1, 2, 3, 4, 5, 6, 7], [0, 1, 2, 3, 4, 5, 6, 7, 8], [0, 1, 2, 3, 4, 5, 6, 7, 8, 9], [0, 1, 2, 3, 4, 5, 6, 7, 8, 9, 10], [0, 1, 2, 3, 4, 5, 6, 7, 8, 9, 10, 11], [0, 1, 2, 3, 4, 5, 6, 7, 8, 9, 10, 11, 12], [0, 1, 2, 3, 4, 5, 6, 7, 8, 9, 10, 11, 12, 13], [0, 1, 2, 3, 4, 5, 6, 7, 8, 9, 10, 11, 12, 13, 14], [0, 1, 2, 3, 4, 5, 6, 7, 8, 9, 10, 11, 12, 13, 14, 15], [0, 1, 2, 3, 4, 5, 6, 7, 8, 9, 10, 11, 12, 13, 14, 15, 16], [0, 1, 2, 3, 4, 5, 6, 7, 8, 9, 10, 11, 12, 13, 14, 15, 16, 17], [0, 1, 2, 3, 4, 5, 6, 7, 8, 9, 10, 11, 12, 13, 14, 15, 16, 17, 18], [0, 1, 2, 3, 4, 5, 6, 7, 8, 9, 10, 11, 12, 13, 14, 15, 16, 17, 18, 19], [0, 1, 2, 3, 4, 5, 6, 7, 8, 9, 10, 11, 12, 13, 14, 15, 16, 17, 18, 19, 20], [0, 1, 2, 3, 4, 5, 6, 7, 8, 9, 10, 11, 12, 13, 14, 15, 16, 17, 18], [0, 1, 2, 3, 4, 5, 6, 7, 8, 9, 10, 11, 12, 13, 14, 15, 16, 17, 18, 22], [0, 1, 2, 3, 4, 5, 6, 7, 8, 9, 10, 11, 12, 13, 14, 15, 16, 17, 18, 22, 23], [0, 1, 2, 3, 4, 5, 6, 7, 8, 9, 10, 11, 12, 13, 14, 15, 16, 17, 18, 22, 23, 24], [0, 1, 2, 3, 4, 5, 6, 7, 8, 9, 10, 11, 12, 13, 14, 15, 16, 17, 18, 22, 23, 24, 25], [0, 1, 2, 3, 4, 5, 6, 7, 8, 9, 10, 11, 12, 13, 14, 15, 16, 17, 18, 19, 20, 21, 22, 23, 24, 25, 26], [0, 1, 2, 3, 4, 5, 6, 7, 8, 9, 10, 11, 12, 13, 14, 15, 16, 17, 18, 19, 20, 21, 22, 23, 24, 25, 26, 27]], [(2, [], true), (10, [], true), (15, [], true), (20, [], true), (23, [], true), (26, [], true)]⟩
  | _ => ⟨[], []⟩
def dok25 : Nat → Bool
  | 2 => true
  | _ => false
def draw28 : Nat → DrawAnn
  | 2 => ⟨[[], [0], [0, 1], [], [3], [3, 4], [0, 1, 2, 3, 4, 5], [0, 1, 2, 3, 4, 5, 6], [0, 1, 2, 3, 4, 5, 6, 7], [0, 1, 2, 3, 4, 5, 6, 7, 8], [0, 1, 2, 3, 4, 5, 6, 7], [0, 1, 2, 3, 4, 5, 6, 7, 8, 9, 10], [0, 1, 2, 3, 4, 5, 6, 7, 8, 9, 10, 11], [0, 1, 2, 3, 4, 5, 6, 7, 8, 9, 10, 11, 12], [0, 1, 2, 3, 4, 5, 6, 7, 8, 9, 10, 11, 12, 13], [0, 1, 2, 3, 4, 5, 6, 7, 8, 9, 10, 11, 12, 13, 14], [0, 1, 2, 3, 4, 5, 6, 7, 8, 9, 10, 11, 12, 13], [0, 1, 2, 3, 4, 5, 6, 7, 8, 9, 10, 11, 12, 13, 16], [0, 1, 2, 3, 4, 5, 6, 7, 8, 9, 10, 11, 12, 13, 16, 17], [0, 1, 2, 3, 4, 5, 6, 7, 8, 9, 10, 11, 12, 13, 14, 15, 16, 17, 18], [0, 1, 2, 3, 4, 5, 6, 7, 8, 9, 10, 11, 12, 13, 14, 15, 16, 17, 18, 19]], [(1, [5, 18], false), (4, [5], false), (9, [18], false), (15, [18], true), (17, [18], false)]⟩
  | _ => ⟨[], []⟩
def dok28 : Nat → Bool
  | 2 => true
  | _ => false
def draw30 : Nat → DrawAnn
  | 3 => ⟨[[], [0], [], [2], [0, 1, 2, 3], [0, 1, 2, 3, 4]], [(2, [1, 5], false)]⟩
  | _ => ⟨[], []⟩
def dok30 : Nat → Bool
  | 3 => true
  | _ => false
def draw35 : Nat → DrawAnn
  | 4 => ⟨[[], [0], [0, 1], [], [3], [0, 1, 2, 3, 4], [0, 1, 2, 3, 4, 5]], [(3, [1, 2, 5], false)]⟩
  | _ => ⟨[], []⟩
def dok35 : Nat → Bool
  | 4 => true
  | _ => false
def draw55 : Nat → DrawAnn
  | 1 => ⟨[[], [], [1], [0, 1, 2]], [(0, [2, 3], false), (1, [2], false)]⟩
  | _ => ⟨[], []⟩
def dok55 : Nat → Bool
  | 1 => true
  | _ => false
def draw63 : Nat → DrawAnn
  | 7 => ⟨[[], [], [1], [], [], [4], [], [6], [6, 7], [], [9], [0, 1, 2, 6, 7, 8], [0, 1, 2, 6, 7, 8, 11], [0, 1, 2, 3, 4, 5, 6, 7, 8, 9, 10, 11, 12], [0, 1, 2, 3, 4, 5, 6, 7, 8, 9, 10, 11, 12, 13]], []⟩
  | 8 => ⟨[[], [], [1], [], [], [4], [], [6], [6, 7], [], [9], [0, 1, 2, 6, 7, 8], [0, 1, 2, 6, 7, 8, 11], [0, 1, 2, 3, 4, 5, 6, 7, 8, 9, 10, 11, 12], [0, 1, 2, 3, 4, 5, 6, 7, 8, 9, 10, 11, 12, 13]], []⟩
  | 9 => ⟨[[], [], [1], [], [], [4], [], [6], [6, 7], [], [9], [0, 1, 2, 6, 7, 8], [0, 1, 2, 6, 7, 8, 11], [0, 1, 2, 3, 4, 5, 6, 7, 8, 9, 10, 11, 12], [0, 1, 2, 3, 4, 5, 6, 7, 8, 9, 10, 11, 12, 13]], []⟩
  | 10 => ⟨[[], [], [1], [], [], [4], [], [6], [6, 7], [], [9], [0, 1, 2, 6, 7, 8], [0, 1, 2, 6, 7, 8, 11], [0, 1, 2, 3, 4, 5, 6, 7, 8, 9, 10, 11, 12], [0, 1, 2, 3, 4, 5, 6, 7, 8, 9, 10, 11, 12, 13]], []⟩
  | 17 => ⟨[[], [], [1], [], [], [4], [], [6], [6, 7], [], [9], [0, 1, 2, 6, 7, 8], [0, 1, 2, 6, 7, 8, 11], [0, 1, 2, 3, 4, 5, 6, 7, 8, 9, 10, 11, 12], [0, 1, 2, 3, 4, 5, 6, 7, 8, 9, 10, 11, 12, 13]], []⟩
  | 18 => ⟨[[], [], [1], [], [], [4], [], [6], [6, 7], [], [9], [0, 1, 2, 6, 7, 8], [0, 1, 2, 6, 7, 8, 11], [0, 1, 2, 3, 4, 5, 6, 7, 8, 9, 10, 11, 12], [0, 1, 2, 3, 4, 5, 6, 7, 8, 9, 10, 11, 12, 13]], []⟩
  | 23 => ⟨[[], [], [1], [], [], [4], [], [6], [6, 7], [], [9], [0, 1, 2, 6, 7, 8], [0, 1, 2, 6, 7, 8, 11], [0, 1, 2, 3, 4, 5, 6, 7, 8, 9, 10, 11, 12], [0, 1, 2, 3, 4, 5, 6, 7, 8, 9, 10, 11, 12, 13]], []⟩
  | _ => ⟨[], []⟩
def dok63 : Nat → Bool
  | 7 => true
  | 8 => true
  | 9 => true
  | 10 => true
  | 17 => true
  | 18 => true
  | 23 => true
  | _ => false
def draw68 : Nat → DrawAnn
  | 6 => ⟨[[], [], [0, 1], [], [], [3, 4], [0, 1, 2, 3, 4, 5]], []⟩
  | 7 => ⟨[[], [], [1], [0, 1, 2], [], [], [4, 5], [0, 1, 2, 3, 4, 5, 6], [0, 1, 2, 3, 4, 5, 6, 7]], []⟩
  | 14 => ⟨[[], [], [], [1, 2], [0, 1, 2, 3], [], [], [], [6, 7], [5, 6, 7, 8], [0, 1, 2, 3, 4, 5, 6, 7, 8, 9]], []⟩
  | 31 => ⟨[[], [], [], [1, 2], [0, 1, 2, 3], [], [], [], [6, 7], [5, 6, 7, 8], [0, 1, 2, 3, 4, 5, 6, 7, 8, 9]], []⟩
  | _ => ⟨[], []⟩
def dok68 : Nat → Bool
  | 6 => true
  | 7 => true
  | 14 => true
  | 31 => true
  | _ => false
def draw75 : Nat → DrawAnn
  | 1 => ⟨[[], [], [1], [], [0, 1, 2, 3], [0, 1, 2, 3, 4], [0, 1, 2, 3, 4, 5]], [(3, [2, 5], false)]⟩
  | _ => ⟨[], []⟩
def dok75 : Nat → Bool
  | 1 => true
  | _ => false
def draw76 : Nat → DrawAnn
  | 1 => ⟨[[], [], [1], [], [0, 1, 2, 3], [0, 1, 2, 3, 4], [0, 1, 2, 3, 4, 5]], [(3, [2, 5], false)]⟩
  | _ => ⟨[], []⟩
def dok76 : Nat → Bool
  | 1 => true
  | _ => false
def ann : Ann where
  reg := fun f i => match f with
    | 2 => reg2 i
    | 3 => reg3 i
    | 4 => reg4 i
    | 5 => reg5 i
    | 6 => reg6 i
    | 7 => reg7 i
    | 8 => reg8 i
    | 9 => reg9 i
    | 10 => reg10 i
    | 11 => reg11 i
    | 12 => reg12 i
    | 13 => reg13 i
    | 14 => reg14 i
    | 15 => reg15 i
    | 16 => reg16 i
    | 17 => reg17 i
    | 18 => reg18 i
    | 19 => reg19 i
    | 20 => reg20 i
    | 21 => reg21 i
    | 22 => reg22 i
    | 23 => reg23 i
    | 24 => reg24 i
    | 25 => reg25 i
    | 26 => reg26 i
    | 27 => reg27 i
    | 28 => reg28 i
    | 29 => reg29 i
    | 30 => reg30 i
    | 31 => reg31 i
    | 32 => reg32 i
    | 33 => reg33 i
    | 34 => reg34 i
    | 35 => reg35 i
    | 36 => reg36 i
    | 37 => reg37 i
    | 38 => reg38 i
    | 39 => reg39 i
    | 40 => reg40 i
    | 41 => reg41 i
    | 42 => reg42 i
    | 43 => reg43 i
    | 44 => reg44 i
    | 45 => reg45 i
    | 46 => reg46 i
    | 47 => reg47 i
    | 48 => reg48 i
    | 49 => reg49 i
    | 50 => reg50 i
    | 51 => reg51 i
    | 52 => reg52 i
    | 53 => reg53 i
    | 54 => reg54 i
    | 55 => reg55 i
    | 56 => reg56 i
    | 57 => reg57 i
    | 58 => reg58 i
    | 59 => reg59 i
    | 60 => reg60 i
    | 61 => reg61 i
    | 62 => reg62 i
    | 63 => reg63 i
    | 64 => reg64 i
    | 65 => reg65 i
    | 66 => reg66 i
    | 67 => reg67 i
    | 69 => reg69 i
    | 70 => reg70 i
    | 71 => reg71 i
    | 72 => reg72 i
    | 73 => reg73 i
    | 74 => reg74 i
    | 75 => reg75 i
    | 76 => reg76 i
    | 77 => reg77 i
    | 78 => reg78 i
    | 79 => reg79 i
    | 80 => reg80 i
    | 81 => reg81 i
    | 83 => reg83 i
    | 84 => reg84 i
    | 85 => reg85 i
    | 86 => reg86 i
    | 87 => reg87 i
    | 88 => reg88 i
    | 89 => reg89 i
    | 90 => reg90 i
    | 121 => reg121 i
    | _ => none
  loop := fun f i => match f with
    | 3 => loop3 i
    | 11 => loop11 i
    | 12 => loop12 i
    | 21 => loop21 i
    | 22 => loop22 i
    | 25 => loop25 i
    | 27 => loop27 i
    | 28 => loop28 i
    | 34 => loop34 i
    | 45 => loop45 i
    | 46 => loop46 i
    | 47 => loop47 i
    | 48 => loop48 i
    | 49 => loop49 i
    | 51 => loop51 i
    | 53 => loop53 i
    | 63 => loop63 i
    | 64 => loop64 i
    | 65 => loop65 i
    | 85 => loop85 i
    | 90 => loop90 i
    | _ => none
  keep := fun f => match f with
    | _ => false
  draw := fun f i => match f with
    | 8 => draw8 i
    | 11 => draw11 i
    | 15 => draw15 i
    | 19 => draw19 i
    | 22 => draw22 i
    | 25 => draw25 i
    | 28 => draw28 i
    | 30 => draw30 i
    | 35 => draw35 i
    | 55 => draw55 i
    | 63 => draw63 i
    | 68 => draw68 i
    | 75 => draw75 i
    | 76 => draw76 i
    | _ => ⟨[], []⟩
  dok := fun f i => match f with
    | 8 => dok8 i
    | 11 => dok11 i
    | 15 => dok15 i
    | 19 => dok19 i
    | 22 => dok22 i
    | 25 => dok25 i
    | 28 => dok28 i
    | 30 => dok30 i
    | 35 => dok35 i
    | 55 => dok55 i
    | 63 => dok63 i
    | 68 => dok68 i
    | 75 => dok75 i
    | 76 => dok76 i
    | _ => false
  recov := fun f => match f with
    | 9 => true
    | _ => false
theorem ann_recov_2 : ann.recov 2 = false := rfl
theorem ann_reg_2 : ann.reg 2 = reg2 := rfl
theorem ann_keep_2 : ann.keep 2 = false := rfl
theorem ann_recov_3 : ann.recov 3 = false := rfl
theorem ann_reg_3 : ann.reg 3 = reg3 := rfl
theorem ann_loop_3 : ann.loop 3 = loop3 := rfl
theorem ann_keep_3 : ann.keep 3 = false := rfl
theorem ann_recov_4 : ann.recov 4 = false := rfl
theorem ann_reg_4 : ann.reg 4 = reg4 := rfl
theorem ann_keep_4 : ann.keep 4 = false := rfl
theorem ann_recov_5 : ann.recov 5 = false := rfl
theorem ann_reg_5 : ann.reg 5 = reg5 := rfl
theorem ann_keep_5 : ann.keep 5 = false := rfl
theorem ann_recov_6 : ann.recov 6 = false := rfl
theorem ann_reg_6 : ann.reg 6 = reg6 := rfl
theorem ann_keep_6 : ann.keep 6 = false := rfl
theorem ann_recov_7 : ann.recov 7 = false := rfl
theorem ann_reg_7 : ann.reg 7 = reg7 := rfl
theorem ann_keep_7 : ann.keep 7 = false := rfl
theorem ann_recov_8 : ann.recov 8 = false := rfl
theorem ann_draw_8 : ann.draw 8 = draw8 := rfl
theorem ann_dok_8 : ann.dok 8 = dok8 := rfl
theorem ann_reg_8 : ann.reg 8 = reg8 := rfl
theorem ann_keep_8 : ann.keep 8 = false := rfl
theorem ann_recov_9 : ann.recov 9 = true := rfl
theorem ann_reg_9 : ann.reg 9 = reg9 := rfl
theorem ann_keep_9 : ann.keep 9 = false := rfl
theorem ann_recov_10 : ann.recov 10 = false := rfl
theorem ann_reg_10 : ann.reg 10 = reg10 := rfl
theorem ann_keep_10 : ann.keep 10 = false := rfl
theorem ann_recov_11 : ann.recov 11 = false := rfl
theorem ann_draw_11 : ann.draw 11 = draw11 := rfl
theorem ann_dok_11 : ann.dok 11 = dok11 := rfl
theorem ann_reg_11 : ann.reg 11 = reg11 := rfl
theorem ann_loop_11 : ann.loop 11 = loop11 := rfl
theorem ann_keep_11 : ann.keep 11 = false := rfl
theorem ann_recov_12 : ann.recov 12 = false := rfl
theorem ann_reg_12 : ann.reg 12 = reg12 := rfl
theorem ann_loop_12 : ann.loop 12 = loop12 := rfl
theorem ann_keep_12 : ann.keep 12 = false := rfl
theorem ann_recov_13 : ann.recov 13 = false := rfl
theorem ann_reg_13 : ann.reg 13 = reg13 := rfl
theorem ann_keep_13 : ann.keep 13 = false := rfl
theorem ann_recov_14 : ann.recov 14 = false := rfl
theorem ann_reg_14 : ann.reg 14 = reg14 := rfl
theorem ann_keep_14 : ann.keep 14 = false := rfl
theorem ann_recov_15 : ann.recov 15 = false := rfl
theorem ann_draw_15 : ann.draw 15 = draw15 := rfl
theorem ann_dok_15 : ann.dok 15 = dok15 := rfl
theorem ann_reg_15 : ann.reg 15 = reg15 := rfl
theorem ann_keep_15 : ann.keep 15 = false := rfl
theorem ann_recov_16 : ann.recov 16 = false := rfl
theorem ann_reg_16 : ann.reg 16 = reg16 := rfl
theorem ann_keep_16 : ann.keep 16 = false := rfl
theorem ann_recov_17 : ann.recov 17 = false := rfl
theorem ann_reg_17 : ann.reg 17 = reg17 := rfl
theorem ann_keep_17 : ann.keep 17 = false := rfl
theorem ann_recov_18 : ann.recov 18 = false := rfl
theorem ann_reg_18 : ann.reg 18 = reg18 := rfl
theorem ann_keep_18 : ann.keep 18 = false := rfl
theorem ann_recov_19 : ann.recov 19 = false := rfl
theorem ann_draw_19 : ann.draw 19 = draw19 := rfl
theorem ann_dok_19 : ann.dok 19 = dok19 := rfl
theorem ann_reg_19 : ann.reg 19 = reg19 := rfl
theorem ann_keep_19 : ann.keep 19 = false := rfl
theorem ann_recov_20 : ann.recov 20 = false := rfl
theorem ann_reg_20 : ann.reg 20 = reg20 := rfl
theorem ann_keep_20 : ann.keep 20 = false := rfl
theorem ann_recov_21 : ann.recov 21 = false := rfl
theorem ann_reg_21 : ann.reg 21 = reg21 := rfl
theorem ann_loop_21 : ann.loop 21 = loop21 := rfl
theorem ann_keep_21 : ann.keep 21 = false := rfl
theorem ann_recov_22 : ann.recov 22 = false := rfl
theorem ann_draw_22 : ann.draw 22 = draw22 := rfl
theorem ann_dok_22 : ann.dok 22 = dok22 := rfl
theorem ann_reg_22 : ann.reg 22 = reg22 := rfl
theorem ann_loop_22 : ann.loop 22 = loop22 := rfl
theorem ann_keep_22 : ann.keep 22 = false := rfl
theorem ann_recov_23 : ann.recov 23 = false := rfl
theorem ann_reg_23 : ann.reg 23 = reg23 := rfl
theorem ann_keep_23 : ann.keep 23 = false := rfl
theorem ann_recov_24 : ann.recov 24 = false := rfl
theorem ann_reg_24 : ann.reg 24 = reg24 := rfl
theorem ann_keep_24 : ann.keep 24 = false := rfl
theorem ann_recov_25 : ann.recov 25 = false := rfl
theorem ann_draw_25 : ann.draw 25 = draw25 := rfl
theorem ann_dok_25 : ann.dok 25 = dok25 := rfl
theorem ann_reg_25 : ann.reg 25 = reg25 := rfl
theorem ann_loop_25 : ann.loop 25 = loop25 := rfl
theorem ann_keep_25 : ann.keep 25 = false := rfl
theorem ann_recov_26 : ann.recov 26 = false := rfl
theorem ann_reg_26 : ann.reg 26 = reg26 := rfl
theorem ann_keep_26 : ann.keep 26 = false := rfl
theorem ann_recov_27 : ann.recov 27 = false := rfl
theorem ann_reg_27 : ann.reg 27 = reg27 := rfl
theorem ann_loop_27 : ann.loop 27 = loop27 := rfl
theorem ann_keep_27 : ann.keep 27 = false := rfl
theorem ann_recov_28 : ann.recov 28 = false := rfl
theorem ann_draw_28 : ann.draw 28 = draw28 := rfl
theorem ann_dok_28 : ann.dok 28 = dok28 := rfl
theorem ann_reg_28 : ann.reg 28 = reg28 := rfl
theorem ann_loop_28 : ann.loop 28 = loop28 := rfl
theorem ann_keep_28 : ann.keep 28 = false := rfl
theorem ann_recov_29 : ann.recov 29 = false := rfl
theorem ann_reg_29 : ann.reg 29 = reg29 := rfl
theorem ann_keep_29 : ann.keep 29 = false := rfl
theorem ann_recov_30 : ann.recov 30 = false := rfl
theorem ann_draw_30 : ann.draw 30 = draw30 := rfl
theorem ann_dok_30 : ann.dok 30 = dok30 := rfl
theorem ann_reg_30 : ann.reg 30 = reg30 := rfl
theorem ann_keep_30 : ann.keep 30 = false := rfl
theorem ann_recov_31 : ann.recov 31 = false := rfl
theorem ann_reg_31 : ann.reg 31 = reg31 := rfl
theorem ann_keep_31 : ann.keep 31 = false := rfl
theorem ann_recov_32 : ann.recov 32 = false := rfl
theorem ann_reg_32 : ann.reg 32 = reg32 := rfl
theorem ann_keep_32 : ann.keep 32 = false := rfl
theorem ann_recov_33 : ann.recov 33 = false := rfl
theorem ann_reg_33 : ann.reg 33 = reg33 := rfl
theorem ann_keep_33 : ann.keep 33 = false := rfl
theorem ann_recov_34 : ann.recov 34 = false := rfl
theorem ann_reg_34 : ann.reg 34 = reg34 := rfl
theorem ann_loop_34 : ann.loop 34 = loop34 := rfl
theorem ann_keep_34 : ann.keep 34 = false := rfl
theorem ann_recov_35 : ann.recov 35 = false := rfl
theorem ann_draw_35 : ann.draw 35 = draw35 := rfl
theorem ann_dok_35 : ann.dok 35 = dok35 := rfl
theorem ann_reg_35 : ann.reg 35 = reg35 := rfl
theorem ann_keep_35 : ann.keep 35 = false := rfl
theorem ann_recov_36 : ann.recov 36 = false := rfl
theorem ann_reg_36 : ann.reg 36 = reg36 := rfl
theorem ann_keep_36 : ann.keep 36 = false := rfl
theorem ann_recov_37 : ann.recov 37 = false := rfl
theorem ann_reg_37 : ann.reg 37 = reg37 := rfl
theorem ann_keep_37 : ann.keep 37 = false := rfl
theorem ann_recov_38 : ann.recov 38 = false := rfl
theorem ann_reg_38 : ann.reg 38 = reg38 := rfl
theorem ann_keep_38 : ann.keep 38 = false := rfl
theorem ann_recov_39 : ann.recov 39 = false := rfl
theorem ann_reg_39 : ann.reg 39 = reg39 := rfl
theorem ann_keep_39 : ann.keep 39 = false := rfl
theorem ann_recov_40 : ann.recov 40 = false := rfl
theorem ann_reg_40 : ann.reg 40 = reg40 := rfl
theorem ann_keep_40 : ann.keep 40 = false := rfl
theorem ann_recov_41 : ann.recov 41 = false := rfl
theorem ann_reg_41 : ann.reg 41 = reg41 := rfl
theorem ann_keep_41 : ann.keep 41 = false := rfl
theorem ann_recov_42 : ann.recov 42 = false := rfl
theorem ann_reg_42 : ann.reg 42 = reg42 := rfl
theorem ann_keep_42 : ann.keep 42 = false := rfl
theorem ann_recov_43 : ann.recov 43 = false := rfl
theorem ann_reg_43 : ann.reg 43 = reg43 := rfl
theorem ann_keep_43 : ann.keep 43 = false := rfl
theorem ann_recov_44 : ann.recov 44 = false := rfl
theorem ann_reg_44 : ann.reg 44 = reg44 := rfl
theorem ann_keep_44 : ann.keep 44 = false := rfl
theorem ann_recov_45 : ann.recov 45 = false := rfl
theorem ann_reg_45 : ann.reg 45 = reg45 := rfl
theorem ann_loop_45 : ann.loop 45 = loop45 := rfl
theorem ann_keep_45 : ann.keep 45 = false := rfl
theorem ann_recov_46 : ann.recov 46 = false := rfl
theorem ann_reg_46 : ann.reg 46 = reg46 := rfl
theorem ann_loop_46 : ann.loop 46 = loop46 := rfl
theorem ann_keep_46 : ann.keep 46 = false := rfl
theorem ann_recov_47 : ann.recov 47 = false := rfl
theorem ann_reg_47 : ann.reg 47 = reg47 := rfl
theorem ann_loop_47 : ann.loop 47 = loop47 := rfl
theorem ann_keep_47 : ann.keep 47 = false := rfl
theorem ann_recov_48 : ann.recov 48 = false := rfl
theorem ann_reg_48 : ann.reg 48 = reg48 := rfl
theorem ann_loop_48 : ann.loop 48 = loop48 := rfl
theorem ann_keep_48 : ann.keep 48 = false := rfl
theorem ann_recov_49 : ann.recov 49 = false := rfl
theorem ann_reg_49 : ann.reg 49 = reg49 := rfl
theorem ann_loop_49 : ann.loop 49 = loop49 := rfl
theorem ann_keep_49 : ann.keep 49 = false := rfl
theorem ann_recov_50 : ann.recov 50 = false := rfl
theorem ann_reg_50 : ann.reg 50 = reg50 := rfl
theorem ann_keep_50 : ann.keep 50 = false := rfl
theorem ann_recov_51 : ann.recov 51 = false := rfl
theorem ann_reg_51 : ann.reg 51 = reg51 := rfl
theorem ann_loop_51 : ann.loop 51 = loop51 := rfl
theorem ann_keep_51 : ann.keep 51 = false := rfl
theorem ann_recov_52 : ann.recov 52 = false := rfl
theorem ann_reg_52 : ann.reg 52 = reg52 := rfl
theorem ann_keep_52 : ann.keep 52 = false := rfl
theorem ann_recov_53 : ann.recov 53 = false := rfl
theorem ann_reg_53 : ann.reg 53 = reg53 := rfl
theorem ann_loop_53 : ann.loop 53 = loop53 := rfl
theorem ann_keep_53 : ann.keep 53 = false := rfl
theorem ann_recov_54 : ann.recov 54 = false := rfl
theorem ann_reg_54 : ann.reg 54 = reg54 := rfl
theorem ann_keep_54 : ann.keep 54 = false := rfl
theorem ann_recov_55 : ann.recov 55 = false := rfl
theorem ann_draw_55 : ann.draw 55 = draw55 := rfl
theorem ann_dok_55 : ann.dok 55 = dok55 := rfl
theorem ann_reg_55 : ann.reg 55 = reg55 := rfl
theorem ann_keep_55 : ann.keep 55 = false := rfl
theorem ann_recov_56 : ann.recov 56 = false := rfl
theorem ann_reg_56 : ann.reg 56 = reg56 := rfl
theorem ann_keep_56 : ann.keep 56 = false := rfl
theorem ann_recov_57 : ann.recov 57 = false := rfl
theorem ann_reg_57 : ann.reg 57 = reg57 := rfl
theorem ann_keep_57 : ann.keep 57 = false := rfl
theorem ann_recov_58 : ann.recov 58 = false := rfl
theorem ann_reg_58 : ann.reg 58 = reg58 := rfl
theorem ann_keep_58 : ann.keep 58 = false := rfl
theorem ann_recov_59 : ann.recov 59 = false := rfl
theorem ann_reg_59 : ann.reg 59 = reg59 := rfl
theorem ann_keep_59 : ann.keep 59 = false := rfl
theorem ann_recov_60 : ann.recov 60 = false := rfl
theorem ann_reg_60 : ann.reg 60 = reg60 := rfl
theorem ann_keep_60 : ann.keep 60 = false := rfl
theorem ann_recov_61 : ann.recov 61 = false := rfl
theorem ann_reg_61 : ann.reg 61 = reg61 := rfl
theorem ann_keep_61 : ann.keep 61 = false := rfl
theorem ann_recov_62 : ann.recov 62 = false := rfl
theorem ann_reg_62 : ann.reg 62 = reg62 := rfl
theorem ann_keep_62 : ann.keep 62 = false := rfl
theorem ann_recov_63 : ann.recov 63 = false := rfl
theorem ann_draw_63 : ann.draw 63 = draw63 := rfl
theorem ann_dok_63 : ann.dok 63 = dok63 := rfl
theorem ann_reg_63 : ann.reg 63 = reg63 := rfl
theorem ann_loop_63 : ann.loop 63 = loop63 := rfl
theorem ann_keep_63 : ann.keep 63 = false := rfl
theorem ann_recov_64 : ann.recov 64 = false := rfl
theorem ann_reg_64 : ann.reg 64 = reg64 := rfl
theorem ann_loop_64 : ann.loop 64 = loop64 := rfl
theorem ann_keep_64 : ann.keep 64 = false := rfl
theorem ann_recov_65 : ann.recov 65 = false := rfl
theorem ann_reg_65 : ann.reg 65 = reg65 := rfl
theorem ann_loop_65 : ann.loop 65 = loop65 := rfl
theorem ann_keep_65 : ann.keep 65 = false := rfl
theorem ann_recov_66 : ann.recov 66 = false := rfl
theorem ann_reg_66 : ann.reg 66 = reg66 := rfl
theorem ann_keep_66 : ann.keep 66 = false := rfl
theorem ann_recov_67 : ann.recov 67 = false := rfl
theorem ann_reg_67 : ann.reg 67 = reg67 := rfl
theorem ann_keep_67 : ann.keep 67 = false := rfl
theorem ann_recov_69 : ann.recov 69 = false := rfl
theorem ann_reg_69 : ann.reg 69 = reg69 := rfl
theorem ann_keep_69 : ann.keep 69 = false := rfl
theorem ann_recov_70 : ann.recov 70 = false := rfl
theorem ann_reg_70 : ann.reg 70 = reg70 := rfl
theorem ann_keep_70 : ann.keep 70 = false := rfl
theorem ann_recov_71 : ann.recov 71 = false := rfl
theorem ann_reg_71 : ann.reg 71 = reg71 := rfl
theorem ann_keep_71 : ann.keep 71 = false := rfl
theorem ann_recov_72 : ann.recov 72 = false := rfl
theorem ann_reg_72 : ann.reg 72 = reg72 := rfl
theorem ann_keep_72 : ann.keep 72 = false := rfl
theorem ann_recov_73 : ann.recov 73 = false := rfl
theorem ann_reg_73 : ann.reg 73 = reg73 := rfl
theorem ann_keep_73 : ann.keep 73 = false := rfl
theorem ann_recov_74 : ann.recov 74 = false := rfl
theorem ann_reg_74 : ann.reg 74 = reg74 := rfl
theorem ann_keep_74 : ann.keep 74 = false := rfl
theorem ann_recov_75 : ann.recov 75 = false := rfl
theorem ann_draw_75 : ann.draw 75 = draw75 := rfl
theorem ann_dok_75 : ann.dok 75 = dok75 := rfl
theorem ann_reg_75 : ann.reg 75 = reg75 := rfl
theorem ann_keep_75 : ann.keep 75 = false := rfl
theorem ann_recov_76 : ann.recov 76 = false := rfl
theorem ann_draw_76 : ann.draw 76 = draw76 := rfl
theorem ann_dok_76 : ann.dok 76 = dok76 := rfl
theorem ann_reg_76 : ann.reg 76 = reg76 := rfl
theorem ann_keep_76 : ann.keep 76 = false := rfl
theorem ann_recov_77 : ann.recov 77 = false := rfl
theorem ann_reg_77 : ann.reg 77 = reg77 := rfl
theorem ann_keep_77 : ann.keep 77 = false := rfl
theorem ann_recov_78 : ann.recov 78 = false := rfl
theorem ann_reg_78 : ann.reg 78 = reg78 := rfl
theorem ann_keep_78 : ann.keep 78 = false := rfl
theorem ann_recov_79 : ann.recov 79 = false := rfl
theorem ann_reg_79 : ann.reg 79 = reg79 := rfl
theorem ann_keep_79 : ann.keep 79 = false := rfl
theorem ann_recov_80 : ann.recov 80 = false := rfl
theorem ann_reg_80 : ann.reg 80 = reg80 := rfl
theorem ann_keep_80 : ann.keep 80 = false := rfl
theorem ann_recov_81 : ann.recov 81 = false := rfl
theorem ann_reg_81 : ann.reg 81 = reg81 := rfl
theorem ann_keep_81 : ann.keep 81 = false := rfl
theorem ann_recov_83 : ann.recov 83 = false := rfl
theorem ann_reg_83 : ann.reg 83 = reg83 := rfl
theorem ann_keep_83 : ann.keep 83 = false := rfl
theorem ann_recov_84 : ann.recov 84 = false := rfl
theorem ann_reg_84 : ann.reg 84 = reg84 := rfl
theorem ann_keep_84 : ann.keep 84 = false := rfl
theorem ann_recov_85 : ann.recov 85 = false := rfl
theorem ann_reg_85 : ann.reg 85 = reg85 := rfl
theorem ann_loop_85 : ann.loop 85 = loop85 := rfl
theorem ann_keep_85 : ann.keep 85 = false := rfl
theorem ann_recov_86 : ann.recov 86 = false := rfl
theorem ann_reg_86 : ann.reg 86 = reg86 := rfl
theorem ann_keep_86 : ann.keep 86 = false := rfl
theorem ann_recov_87 : ann.recov 87 = false := rfl
theorem ann_reg_87 : ann.reg 87 = reg87 := rfl
theorem ann_keep_87 : ann.keep 87 = false := rfl
theorem ann_recov_88 : ann.recov 88 = false := rfl
theorem ann_reg_88 : ann.reg 88 = reg88 := rfl
theorem ann_keep_88 : ann.keep 88 = false := rfl
theorem ann_recov_89 : ann.recov 89 = false := rfl
theorem ann_reg_89 : ann.reg 89 = reg89 := rfl
theorem ann_keep_89 : ann.keep 89 = false := rfl
theorem ann_recov_90 : ann.recov 90 = false := rfl
theorem ann_reg_90 : ann.reg 90 = reg90 := rfl
theorem ann_loop_90 : ann.loop 90 = loop90 := rfl
theorem ann_keep_90 : ann.keep 90 = false := rfl
theorem ann_recov_121 : ann.recov 121 = false := rfl
theorem ann_reg_121 : ann.reg 121 = reg121 := rfl
theorem ann_keep_121 : ann.keep 121 = false := rfl
end AE
end Go.Proofs.YtbgppidldpepaaaDoor
