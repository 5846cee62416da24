/- Printed by wip/ann.py: which slots live on behind each region and at each loop's head. Annotations alone: the evaluator is sound whatever they say. -/
import Derived.Test.YtmfdpijmholedaaGreatDoorAE1
set_option linter.unusedVariables false
namespace Go.Proofs.YtmfdpijmholedaaGreatDoor
namespace AE
def reg2 : Nat → Option (List Nat)
  | 0 => some []
  | _ => none
def reg3 : Nat → Option (List Nat)
  | 0 => some [2, 3, 4, 5]
  | 1 => some [2, 3, 4, 5, 31]
  | 2 => some [8]
  | 3 => some [2, 3, 4, 5, 9, 10]
  | 4 => some [2, 3, 4, 5, 9, 10, 11]
  | 5 => some [3, 4, 9, 10, 11, 12]
  | 6 => some [3, 4, 9, 10, 11, 12, 13, 14]
  | 7 => some [3, 4, 9, 10, 11, 12, 13, 14, 15, 16]
  | 8 => some [3, 4, 9, 10, 11, 12, 13, 14, 15, 16, 63]
  | 9 => some [9, 10, 11, 12, 13, 14, 15, 16]
  | 10 => some [8]
  | _ => none
def reg4 : Nat → Option (List Nat)
  | 0 => some [1, 2, 3]
  | 1 => some [1, 2, 3, 24]
  | 2 => some [6]
  | 3 => some [1, 3, 26]
  | 4 => some [1, 3, 7]
  | 5 => some [1, 3, 7, 29, 30]
  | 6 => some [1, 3, 7, 29, 30, 31]
  | 7 => some [1, 3, 7, 8, 29, 30]
  | 8 => some [1, 3, 7, 29, 30]
  | 9 => some [1, 3, 7, 29, 30]
  | 10 => some [1, 3]
  | 11 => some [1, 3, 9, 10]
  | 12 => some [1, 3, 9, 10, 11]
  | 13 => some [1, 3, 9, 10, 11, 49]
  | 14 => some [1, 3, 9, 10, 11]
  | 15 => some [1, 3, 9, 10, 11, 12, 13]
  | 16 => some [3, 9, 10, 11, 12, 13, 14, 15]
  | 17 => some [6]
  | _ => none
def loop4 : Nat → Option (List Nat)
  | 6 => some [1, 3, 7, 29, 30]
  | _ => none
def reg5 : Nat → Option (List Nat)
  | 0 => some [2, 3, 4]
  | 1 => some [2, 3, 4, 14]
  | 2 => some [6]
  | 3 => some [2, 3, 4, 7]
  | 4 => some [3, 4, 7, 21, 22]
  | 5 => some [3, 4, 7, 21, 22, 23]
  | 6 => some [3, 4, 7, 21, 22, 25, 26, 27]
  | 7 => some [3, 4, 7, 21, 22, 25, 26, 27, 28]
  | 8 => some [3, 4, 7, 9, 21, 22, 25, 26, 27]
  | 9 => some [3, 4, 7, 9, 21, 22, 25, 26, 27, 34]
  | 10 => some [3, 4, 7, 21, 22, 25, 26, 27]
  | 11 => some [3, 4, 7, 21, 22, 25, 26, 27]
  | 12 => some [3, 4, 7, 21, 22]
  | 13 => some [6]
  | _ => none
def loop5 : Nat → Option (List Nat)
  | 5 => some [3, 4, 7, 21, 22]
  | 7 => some [3, 4, 7, 21, 22, 25, 26, 27]
  | _ => none
def reg6 : Nat → Option (List Nat)
  | 0 => some [2, 3, 4]
  | 1 => some [2, 3, 4, 26]
  | 2 => some [6]
  | 3 => some [2, 3, 4, 7, 8]
  | 4 => some [2, 3, 4, 7, 8, 9, 10]
  | 5 => some [2, 3, 4, 7, 8, 9, 10, 40]
  | 6 => some [2, 3, 7, 8, 9, 10]
  | 7 => some [2, 3, 7, 8, 9, 10, 46]
  | 8 => some [2, 3, 7, 8, 9, 10]
  | 9 => some [2, 3, 7, 8, 9, 10, 11, 12, 13]
  | 10 => some [2, 3, 7, 8, 9, 10, 11, 12, 13, 14, 15]
  | 11 => some [2, 3, 7, 8, 9, 10, 11, 12, 13, 14, 15, 16]
  | 12 => some [2, 3, 7, 8, 9, 10, 11, 12, 13, 14, 15, 16, 66]
  | 13 => some [7, 8, 9, 10, 11, 12, 13, 14, 15, 16]
  | 14 => some [2, 3, 7, 8, 9, 10, 11, 12, 13, 14, 15, 16, 68]
  | 15 => some [7, 8, 9, 10, 11, 12, 13, 14, 15, 16]
  | 16 => some [6]
  | _ => none
def reg7 : Nat → Option (List Nat)
  | 0 => some [2, 3, 4, 5]
  | 1 => some [2, 3, 4, 5, 44]
  | 2 => some [8]
  | 3 => some [2, 3, 4, 5, 9, 10]
  | 4 => some [2, 3, 4, 5, 9, 10, 11, 12]
  | 5 => some [2, 3, 4, 5, 72]
  | 6 => some [8]
  | 7 => some [2, 3, 4, 5, 10, 13]
  | 8 => some [2, 3, 4, 5, 10, 13, 84]
  | 9 => some [8]
  | 10 => some [2, 3, 4, 5, 10, 13, 14, 15]
  | 11 => some [2, 3, 4, 111]
  | 12 => some [8]
  | 13 => some [3, 4, 12, 16, 17]
  | 14 => some [3, 4, 12, 16, 17, 127]
  | 15 => some [8]
  | 16 => some [3, 4, 12, 16, 17, 18, 19]
  | 17 => some [3, 4, 12, 16, 17, 18, 135]
  | 18 => some [8]
  | 19 => some [3, 12, 16, 17, 18, 141]
  | 20 => some [8]
  | 21 => some [3, 16, 17, 18, 143]
  | 22 => some [3, 16, 17, 18, 20]
  | 23 => some [3, 16, 18, 20, 144, 145, 146]
  | 24 => some [3, 16, 18, 20, 144, 145, 146, 147]
  | 25 => some [3, 16, 18, 20, 22, 144, 145, 146]
  | 26 => some [3, 16, 18, 20, 144, 145, 146]
  | 27 => some [3, 16, 18, 20, 144, 145, 146]
  | 28 => some [162]
  | 29 => some [8]
  | 30 => some [8]
  | _ => none
def loop7 : Nat → Option (List Nat)
  | 24 => some [3, 16, 18, 20, 144, 145, 146]
  | _ => none
def reg8 : Nat → Option (List Nat)
  | 0 => some [1, 2]
  | 1 => some [1, 2, 22]
  | 2 => some [4]
  | 3 => some [1, 2, 5, 6]
  | 4 => some [1, 2, 5, 6, 7]
  | 5 => some [1, 2, 5, 6, 7]
  | 6 => some [1, 2, 5, 6, 7, 9]
  | 7 => some [1, 2, 5, 6, 7, 9]
  | 8 => some [1, 2, 5, 6, 7, 9, 44, 45]
  | 9 => some [1, 2, 5, 6, 7, 9, 44, 45, 46]
  | 10 => some [1, 2, 5, 6, 7, 9, 11, 44, 45]
  | 11 => some [1, 2, 5, 6, 7, 9, 44, 45]
  | 12 => some [1, 2, 5, 6, 7, 9, 44, 45]
  | 13 => some [1, 2, 5, 6, 7]
  | 14 => some [1, 2, 5, 6, 7]
  | 15 => some [1, 2, 5, 6, 7]
  | 16 => some [1, 2, 5, 6, 7]
  | 17 => some [1, 2, 5, 6, 7, 12]
  | 18 => some [1, 2, 5, 6, 7]
  | 19 => some [1, 2, 5, 6]
  | 20 => some [1, 2, 5, 6]
  | 21 => some [4]
  | _ => none
def loop8 : Nat → Option (List Nat)
  | 9 => some [1, 2, 5, 6, 7, 9, 44, 45]
  | _ => none
def reg9 : Nat → Option (List Nat)
  | 0 => some [0]
  | 1 => some [5, 6, 7]
  | 2 => some [5, 6, 7, 8]
  | 3 => some [4, 5, 6, 7]
  | 4 => some [5, 6, 7, 13]
  | 5 => some [2]
  | 6 => some [5, 6, 7]
  | 7 => some [2]
  | _ => none
def loop9 : Nat → Option (List Nat)
  | 2 => some [5, 6, 7]
  | _ => none
def reg10 : Nat → Option (List Nat)
  | 0 => some []
  | 1 => some [1, 2]
  | 2 => some [1, 2, 3, 4]
  | 3 => some [1, 2, 3, 4, 5, 6]
  | 4 => some [1, 2, 3, 4, 5, 6, 7, 8]
  | 5 => some [1, 2, 3, 4, 5, 6, 7, 8, 10]
  | 6 => some [1, 2, 3, 4, 5, 6, 7, 8, 10, 11, 12, 13]
  | 7 => some [2, 3, 4, 6, 7, 8, 10, 11, 12, 13, 14, 15]
  | 8 => some [0]
  | _ => none
def reg11 : Nat → Option (List Nat)
  | 0 => some [2, 3, 4]
  | 1 => some [2, 3, 4, 8]
  | 2 => some [2, 3, 4, 8, 15]
  | 3 => some [6, 7]
  | 4 => some [2, 3, 4, 27]
  | 5 => some [6, 7]
  | 6 => some [2, 3, 4, 29, 30, 31]
  | 7 => some [2, 3, 4, 29, 30, 31, 32]
  | 8 => some [2, 3, 4, 9, 10, 29, 30, 31]
  | 9 => some [2, 3, 4, 29, 30, 31, 50]
  | 10 => some [6, 7]
  | 11 => some [2, 3, 4, 29, 30, 31]
  | 12 => some [6, 7]
  | _ => none
def loop11 : Nat → Option (List Nat)
  | 7 => some [2, 3, 4, 29, 30, 31]
  | _ => none
def reg12 : Nat → Option (List Nat)
  | 0 => some [0]
  | 1 => some [0, 7, 8, 9]
  | 2 => some [0, 7, 8, 9, 10]
  | 3 => some [0, 4, 7, 8, 9]
  | 4 => some [0, 7, 8, 9, 15]
  | 5 => some [2]
  | 6 => some [0, 7, 8, 9]
  | 7 => some [0, 17, 18, 19]
  | 8 => some [0, 17, 18, 19, 20]
  | 9 => some [0, 6, 17, 18, 19]
  | 10 => some [0, 17, 18, 19, 30]
  | 11 => some [2]
  | 12 => some [0, 17, 18, 19]
  | 13 => some [2]
  | _ => none
def loop12 : Nat → Option (List Nat)
  | 2 => some [0, 7, 8, 9]
  | 8 => some [0, 17, 18, 19]
  | _ => none
def reg13 : Nat → Option (List Nat)
  | 0 => some [2, 3, 4]
  | 1 => some [2, 3, 4, 20]
  | 2 => some [6]
  | 3 => some [2, 3, 4, 21, 22, 23]
  | 4 => some [2, 3, 4, 21, 22, 23, 24]
  | 5 => some [2, 3, 4, 7, 8, 21, 22, 23]
  | 6 => some [2, 3, 4, 21, 22, 23, 43]
  | 7 => some [6]
  | 8 => some [2, 3, 4, 21, 22, 23]
  | 9 => some [6]
  | _ => none
def loop13 : Nat → Option (List Nat)
  | 4 => some [2, 3, 4, 21, 22, 23]
  | _ => none
def reg14 : Nat → Option (List Nat)
  | 0 => some [1, 2, 4]
  | 1 => some [1, 2, 4, 14]
  | 2 => some [4, 5]
  | 3 => some [1, 2, 4, 21]
  | 4 => some [4, 5]
  | 5 => some [1, 2, 4, 6]
  | 6 => some [1, 2, 4, 6, 23, 24, 25]
  | 7 => some [1, 2, 4, 6, 23, 24, 25, 26]
  | 8 => some [1, 2, 4, 6, 8, 23, 24, 25]
  | 9 => some [1, 2, 4, 6, 8, 23, 24, 25, 34]
  | 10 => some [4, 5]
  | 11 => some [1, 2, 4, 6, 23, 24, 25]
  | 12 => some [1, 2, 4, 6, 23, 24, 25]
  | 13 => some [1, 2, 4, 41, 42]
  | 14 => some [1, 2, 4, 41, 42, 43]
  | 15 => some [1, 2, 4, 9, 41, 42]
  | 16 => some [1, 2, 4, 41, 42, 48]
  | 17 => some [4, 5]
  | 18 => some [1, 2, 4, 41, 42]
  | 19 => some [4, 10, 11]
  | 20 => some [4, 10, 58]
  | 21 => some [4, 5]
  | 22 => some [4, 5]
  | _ => none
def loop14 : Nat → Option (List Nat)
  | 7 => some [1, 2, 4, 6, 23, 24, 25]
  | 14 => some [1, 2, 4, 41, 42]
  | _ => none
def reg15 : Nat → Option (List Nat)
  | 0 => some [1, 2, 4]
  | 1 => some [1, 2, 4, 6]
  | 2 => some [1, 2, 4, 6, 12, 13, 14]
  | 3 => some [1, 2, 4, 6, 12, 13, 14, 15]
  | 4 => some [1, 2, 4, 6, 8, 12, 13, 14]
  | 5 => some [1, 2, 4, 6, 8, 12, 13, 14, 23]
  | 6 => some [4, 5]
  | 7 => some [1, 2, 4, 6, 12, 13, 14]
  | 8 => some [1, 2, 4, 6, 12, 13, 14]
  | 9 => some [1, 2, 4, 6, 9]
  | 10 => some [1, 2, 4, 9, 33, 34]
  | 11 => some [1, 2, 4, 9, 33, 34, 35]
  | 12 => some [1, 2, 4, 9, 10, 33, 34]
  | 13 => some [1, 2, 4, 9, 11, 33, 34]
  | 14 => some [1, 2, 4, 9, 11, 33, 34, 49]
  | 15 => some [4, 5]
  | 16 => some [1, 2, 4, 9, 33, 34]
  | 17 => some [1, 2, 4, 9, 33, 34]
  | 18 => some [1, 2, 4, 9, 66]
  | 19 => some [4, 5]
  | 20 => some [4, 9, 74]
  | 21 => some [4, 5]
  | 22 => some [4, 5]
  | _ => none
def loop15 : Nat → Option (List Nat)
  | 3 => some [1, 2, 4, 6, 12, 13, 14]
  | 11 => some [1, 2, 4, 9, 33, 34]
  | _ => none
def reg16 : Nat → Option (List Nat)
  | 0 => some [2, 3]
  | 1 => some [2, 3, 20]
  | 2 => some [4]
  | 3 => some [2, 3, 23, 24]
  | 4 => some [2, 3, 23, 24, 25]
  | 5 => some [2, 3, 5, 23, 24]
  | 6 => some [2, 3, 23, 24, 38]
  | 7 => some [4]
  | 8 => some [2, 3, 23, 24]
  | 9 => some [4]
  | _ => none
def loop16 : Nat → Option (List Nat)
  | 4 => some [2, 3, 23, 24]
  | _ => none
def reg17 : Nat → Option (List Nat)
  | 0 => some [1]
  | 1 => some [1, 9]
  | 2 => some [2, 3]
  | 3 => some [1, 4]
  | 4 => some [1, 4]
  | 5 => some [1, 4, 17, 18, 19]
  | 6 => some [1, 4, 17, 18, 19, 20]
  | 7 => some [1, 4, 5, 6, 17, 18, 19]
  | 8 => some [1, 4, 17, 18, 19]
  | 9 => some [1, 4, 17, 18, 19]
  | 10 => some [2, 3]
  | _ => none
def loop17 : Nat → Option (List Nat)
  | 6 => some [1, 4, 17, 18, 19]
  | _ => none
def reg18 : Nat → Option (List Nat)
  | 0 => some [1]
  | 1 => some [1, 3]
  | 2 => some [1, 3, 12, 13, 14]
  | 3 => some [1, 3, 12, 13, 14, 15]
  | 4 => some [1, 3, 4, 5, 12, 13, 14]
  | 5 => some [1, 3, 12, 13, 14]
  | 6 => some [1, 3, 12, 13, 14]
  | 7 => some [2]
  | _ => none
def loop18 : Nat → Option (List Nat)
  | 3 => some [1, 3, 12, 13, 14]
  | _ => none
def reg19 : Nat → Option (List Nat)
  | 0 => some [0, 2, 3]
  | 1 => some [0, 2, 3, 25]
  | 2 => some [2, 3]
  | 3 => some [0, 2, 3, 4]
  | 4 => some [0, 2, 3, 4, 5]
  | 5 => some [0, 2, 3, 4, 5, 6]
  | 6 => some [2, 3, 4, 5, 6, 28]
  | 7 => some [2, 3, 4, 5, 6, 7, 30]
  | 8 => some [2, 3, 4, 5, 6, 7, 8]
  | 9 => some [2, 3, 4, 5, 6, 7, 8, 32]
  | 10 => some [2, 3, 4, 6, 9, 10]
  | 11 => some [2, 3, 4, 6, 10, 11, 12]
  | 12 => some [2, 3, 4, 6, 11, 12, 48]
  | 13 => some [2, 3]
  | 14 => some []
  | 15 => some [2, 3, 5, 13, 14]
  | 16 => some [2, 3, 5, 13, 14, 62]
  | 17 => some [2, 3, 5, 13, 14]
  | 18 => some [2, 3, 5, 13, 69]
  | 19 => some [2, 3]
  | 20 => some []
  | 21 => some [2, 3, 4, 5, 81]
  | 22 => some [2, 3]
  | 23 => some [2, 3, 4, 83, 84, 85]
  | 24 => some [2, 3, 4, 83, 84, 85, 86]
  | 25 => some [2, 3, 4, 16, 83, 84, 85]
  | 26 => some [2, 3, 4, 17, 18, 83, 84, 85]
  | 27 => some [2, 3, 4, 17, 83, 84, 85, 97]
  | 28 => some [2, 3]
  | 29 => some [2, 3, 4, 83, 84, 85]
  | 30 => some [2, 3, 4, 83, 84, 85]
  | 31 => some [2, 3, 4, 109, 110, 111]
  | 32 => some [2, 3, 4, 109, 110, 111, 112]
  | 33 => some [2, 3, 4, 19, 20, 109, 110, 111]
  | 34 => some [2, 3, 4, 19, 21, 22, 109, 110, 111]
  | 35 => some [2, 3, 4, 19, 21, 109, 110, 111, 127]
  | 36 => some [2, 3]
  | 37 => some [2, 3, 4, 109, 110, 111]
  | 38 => some [2, 3, 4, 109, 110, 111]
  | 39 => some [2, 3, 4, 137]
  | 40 => some [2, 3]
  | 41 => some [2, 3]
  | _ => none
def loop19 : Nat → Option (List Nat)
  | 24 => some [2, 3, 4, 83, 84, 85]
  | 32 => some [2, 3, 4, 109, 110, 111]
  | _ => none
def reg20 : Nat → Option (List Nat)
  | 0 => some [0, 2]
  | 1 => some [0, 2, 17]
  | 2 => some [2, 3]
  | 3 => some [2, 4]
  | 4 => some [2, 4, 39]
  | 5 => some [2, 3]
  | 6 => some [2, 4, 5, 6]
  | 7 => some [2, 4, 5, 6, 51]
  | 8 => some [2, 3]
  | 9 => some [2, 4, 5, 6, 7]
  | 10 => some [2, 4, 5, 6, 7, 8]
  | 11 => some [2, 4, 5, 6, 7, 8, 65, 66, 67]
  | 12 => some [2, 4, 5, 6, 7, 8, 65, 66, 67, 68]
  | 13 => some [2, 4, 5, 6, 7, 8, 9, 10, 65, 66, 67]
  | 14 => some [2, 4, 5, 6, 7, 8, 11, 12, 65, 66, 67]
  | 15 => some [2, 4, 5, 6, 7, 8, 11, 65, 66, 67, 79]
  | 16 => some [2, 3]
  | 17 => some [2, 4, 5, 6, 7, 8, 11, 65, 66, 67, 88]
  | 18 => some [2, 4, 5, 6, 7, 8, 13, 14, 65, 66, 67]
  | 19 => some [2, 4, 5, 6, 7, 8, 13, 14, 65, 66, 67, 99]
  | 20 => some [2, 3]
  | 21 => some [2, 4, 5, 6, 7, 8, 13, 65, 66, 67]
  | 22 => some [2, 4, 5, 6, 7, 8, 65, 66, 67]
  | 23 => some [2, 4, 5, 6, 7, 8, 65, 66, 67]
  | 24 => some [2, 7, 120]
  | 25 => some [2, 3]
  | 26 => some [2, 3]
  | _ => none
def loop20 : Nat → Option (List Nat)
  | 12 => some [2, 4, 5, 6, 7, 8, 65, 66, 67]
  | _ => none
def reg21 : Nat → Option (List Nat)
  | 0 => some [1]
  | 1 => some [5]
  | 2 => some [2]
  | 3 => some [2]
  | _ => none
def reg22 : Nat → Option (List Nat)
  | 0 => some [2, 3]
  | 1 => some [4]
  | _ => none
def reg23 : Nat → Option (List Nat)
  | 0 => some [1, 2]
  | 1 => some [1, 2, 3]
  | 2 => some [2, 3, 11, 12, 13]
  | 3 => some [2, 3, 11, 12, 13, 14]
  | 4 => some [2, 3, 5, 11, 12, 13]
  | 5 => some [2, 3, 11, 12, 13]
  | 6 => some [2, 3, 11, 12, 13]
  | 7 => some [2]
  | _ => none
def loop23 : Nat → Option (List Nat)
  | 3 => some [2, 3, 11, 12, 13]
  | _ => none
def reg24 : Nat → Option (List Nat)
  | 0 => some [2, 3, 4]
  | 1 => some [2, 3, 4, 6]
  | 2 => some [2, 3, 4, 6, 11]
  | 3 => some [4, 5]
  | 4 => some [4, 5]
  | _ => none
def reg25 : Nat → Option (List Nat)
  | 0 => some [2, 3, 4]
  | 1 => some [2, 3, 4, 5]
  | 2 => some [2, 3, 4, 5, 11, 12, 13]
  | 3 => some [2, 3, 4, 5, 11, 12, 13, 14]
  | 4 => some [2, 3, 4, 5, 7, 11, 12, 13]
  | 5 => some [2, 3, 4, 5, 11, 12, 13]
  | 6 => some [2, 3, 4, 5, 11, 12, 13]
  | 7 => some [4]
  | _ => none
def loop25 : Nat → Option (List Nat)
  | 3 => some [2, 3, 4, 5, 11, 12, 13]
  | _ => none
def reg26 : Nat → Option (List Nat)
  | 0 => some [1]
  | 1 => some [1, 15]
  | 2 => some [2]
  | 3 => some [1, 3]
  | 4 => some [1, 3, 17, 18, 19]
  | 5 => some [1, 3, 17, 18, 19, 20]
  | 6 => some [1, 3, 5, 17, 18, 19]
  | 7 => some [1, 3, 5, 17, 18, 19, 30]
  | 8 => some [2]
  | 9 => some [1, 3, 17, 18, 19]
  | 10 => some [1, 3, 17, 18, 19]
  | 11 => some [2]
  | _ => none
def loop26 : Nat → Option (List Nat)
  | 5 => some [1, 3, 17, 18, 19]
  | _ => none
def reg27 : Nat → Option (List Nat)
  | 0 => some [1, 2, 4]
  | 1 => some [1, 2, 4, 16]
  | 2 => some [4, 5, 6]
  | 3 => some [1, 2, 4, 20]
  | 4 => some [4, 5, 6]
  | 5 => some [1, 2, 4, 7]
  | 6 => some [1, 2, 4, 7, 8]
  | 7 => some [2, 4, 7, 8, 28, 29, 30]
  | 8 => some [2, 4, 7, 8, 28, 29, 30, 31]
  | 9 => some [2, 4, 7, 8, 9, 10, 28, 29, 30]
  | 10 => some [2, 4, 7, 8, 9, 28, 29, 30, 35]
  | 11 => some [2, 4, 7, 8, 9, 28, 29, 30]
  | 12 => some [2, 4, 7, 8, 28, 29, 30]
  | 13 => some [2, 4, 7, 8, 28, 29, 30]
  | 14 => some [2, 4, 7, 8, 11]
  | 15 => some [2, 4, 7, 8, 11, 50, 51, 52]
  | 16 => some [2, 4, 7, 8, 11, 50, 51, 52, 53]
  | 17 => some [2, 4, 7, 8, 11, 13, 50, 51, 52]
  | 18 => some [2, 4, 7, 8, 11, 50, 51, 52]
  | 19 => some [2, 4, 7, 8, 11, 50, 51, 52]
  | 20 => some [4, 5, 6]
  | _ => none
def loop27 : Nat → Option (List Nat)
  | 8 => some [2, 4, 7, 8, 28, 29, 30]
  | 16 => some [2, 4, 7, 8, 11, 50, 51, 52]
  | _ => none
def reg28 : Nat → Option (List Nat)
  | 0 => some [1, 2]
  | 1 => some [2, 7, 8, 9]
  | 2 => some [2, 7, 8, 9, 10]
  | 3 => some [2, 6, 7, 8, 9]
  | 4 => some [2, 7, 8, 9, 21]
  | 5 => some [4]
  | 6 => some [2, 7, 8, 9]
  | 7 => some [4]
  | _ => none
def loop28 : Nat → Option (List Nat)
  | 2 => some [2, 7, 8, 9]
  | _ => none
def reg29 : Nat → Option (List Nat)
  | 0 => some [1, 2, 4]
  | 1 => some [2, 4, 6]
  | 2 => some [4, 5]
  | _ => none
def reg30 : Nat → Option (List Nat)
  | 0 => some [0, 1]
  | 1 => some [0, 1, 10]
  | 2 => some [4]
  | 3 => some [0, 1, 12, 13]
  | 4 => some [0, 1, 12, 13, 14]
  | 5 => some [0, 1, 5, 12, 13]
  | 6 => some [0, 1, 12, 13, 24]
  | 7 => some [4]
  | 8 => some [0, 1, 12, 13]
  | 9 => some [4]
  | _ => none
def loop30 : Nat → Option (List Nat)
  | 4 => some [0, 1, 12, 13]
  | _ => none
def reg31 : Nat → Option (List Nat)
  | 0 => some [0, 1]
  | 1 => some [0, 1, 5]
  | 2 => some [1, 5, 7, 8]
  | 3 => some [1, 5, 7, 8, 9]
  | 4 => some [1, 5, 6, 7, 8]
  | 5 => some [1, 5, 7, 8]
  | 6 => some [1, 5, 7, 8]
  | 7 => some [4]
  | _ => none
def loop31 : Nat → Option (List Nat)
  | 3 => some [1, 5, 7, 8]
  | _ => none
def reg32 : Nat → Option (List Nat)
  | 0 => some [2, 3, 4]
  | 1 => some [7, 8]
  | 2 => some [6]
  | _ => none
def reg33 : Nat → Option (List Nat)
  | 0 => some [0, 8, 9]
  | 1 => some [0, 8, 9, 10]
  | 2 => some [0, 2, 8, 9]
  | 3 => some [0, 8, 9]
  | 4 => some [0, 8, 9]
  | 5 => some [0, 25, 26]
  | 6 => some [0, 25, 26, 27]
  | 7 => some [0, 3, 25, 26]
  | 8 => some [0, 25, 26]
  | 9 => some [0, 25, 26]
  | _ => none
def loop33 : Nat → Option (List Nat)
  | 1 => some [0, 8, 9]
  | 6 => some [0, 25, 26]
  | _ => none
def reg34 : Nat → Option (List Nat)
  | 0 => some [1, 2]
  | 1 => some [1, 2, 19]
  | 2 => some [4]
  | 3 => some [1, 2, 5]
  | 4 => some [1, 5, 21, 22, 23]
  | 5 => some [1, 5, 21, 22, 23, 24]
  | 6 => some [1, 5, 7, 21, 22, 23]
  | 7 => some [1, 5, 7, 21, 22, 23, 30]
  | 8 => some [4]
  | 9 => some [1, 5, 21, 22, 23]
  | 10 => some [1, 5, 21, 22, 23, 37]
  | 11 => some [4]
  | 12 => some [1, 5, 21, 22, 23]
  | 13 => some [4]
  | _ => none
def loop34 : Nat → Option (List Nat)
  | 5 => some [1, 5, 21, 22, 23]
  | _ => none
def reg35 : Nat → Option (List Nat)
  | 0 => some [2, 3]
  | 1 => some [2, 3, 12]
  | 2 => some [4]
  | 3 => some [18]
  | 4 => some [4]
  | 5 => some [4]
  | _ => none
def reg36 : Nat → Option (List Nat)
  | 0 => some [0, 1]
  | 1 => some [4]
  | _ => none
def reg37 : Nat → Option (List Nat)
  | 0 => some [0, 1]
  | 1 => some [3]
  | _ => none
def reg38 : Nat → Option (List Nat)
  | 0 => some [2, 3]
  | 1 => some [4]
  | _ => none
def reg39 : Nat → Option (List Nat)
  | 0 => some [3, 4, 5, 6]
  | 1 => some [6]
  | _ => none
def reg40 : Nat → Option (List Nat)
  | 0 => some [2, 3]
  | 1 => some [2, 3, 26]
  | 2 => some [4]
  | 3 => some [2, 3, 29, 30]
  | 4 => some [2, 3, 29, 30, 31]
  | 5 => some [2, 3, 5, 29, 30]
  | 6 => some [2, 3, 29, 30, 44]
  | 7 => some [4]
  | 8 => some [2, 3, 29, 30]
  | 9 => some [4]
  | _ => none
def loop40 : Nat → Option (List Nat)
  | 4 => some [2, 3, 29, 30]
  | _ => none
def reg41 : Nat → Option (List Nat)
  | 0 => some [2, 3]
  | 1 => some [4]
  | _ => none
def reg42 : Nat → Option (List Nat)
  | 0 => some [2, 3, 4, 6]
  | 1 => some [2, 3, 4, 6, 14]
  | 2 => some [6]
  | 3 => some [2, 3, 4, 6, 7]
  | 4 => some [2, 3, 4, 6, 7, 9]
  | 5 => some [2, 3, 6, 7, 9, 34, 35, 36]
  | 6 => some [2, 3, 6, 7, 9, 34, 35, 36, 37]
  | 7 => some [2, 3, 6, 7, 9, 10, 11, 34, 35, 36]
  | 8 => some [2, 3, 6, 7, 9, 34, 35, 36]
  | 9 => some [2, 3, 6, 7, 9, 34, 35, 36]
  | 10 => some [3, 6, 9, 56]
  | 11 => some [6]
  | 12 => some [6]
  | _ => none
def loop42 : Nat → Option (List Nat)
  | 6 => some [2, 3, 6, 7, 9, 34, 35, 36]
  | _ => none
def reg43 : Nat → Option (List Nat)
  | 0 => some [1]
  | 1 => some [1, 15]
  | 2 => some [2]
  | 3 => some [1, 3]
  | 4 => some [1, 3, 17, 18, 19]
  | 5 => some [1, 3, 17, 18, 19, 20]
  | 6 => some [1, 3, 5, 17, 18, 19]
  | 7 => some [1, 3, 5, 17, 18, 19, 30]
  | 8 => some [2]
  | 9 => some [1, 3, 17, 18, 19]
  | 10 => some [1, 3, 17, 18, 19]
  | 11 => some [2]
  | _ => none
def loop43 : Nat → Option (List Nat)
  | 5 => some [1, 3, 17, 18, 19]
  | _ => none
def reg44 : Nat → Option (List Nat)
  | 0 => some [0, 1]
  | 1 => some [4]
  | _ => none
def reg45 : Nat → Option (List Nat)
  | 0 => some [1, 2, 4]
  | 1 => some [1, 2, 4, 6]
  | 2 => some [1, 2, 4, 6, 14, 15, 16]
  | 3 => some [1, 2, 4, 6, 14, 15, 16, 17]
  | 4 => some [1, 2, 4, 6, 8, 14, 15, 16]
  | 5 => some [1, 2, 4, 6, 14, 15, 16]
  | 6 => some [1, 2, 4, 6, 14, 15, 16]
  | 7 => some [1, 2, 4, 6, 9]
  | 8 => some [1, 2, 4, 9, 10]
  | 9 => some [1, 2, 4, 9, 10, 33, 34, 35]
  | 10 => some [1, 2, 4, 9, 10, 33, 34, 35, 36]
  | 11 => some [1, 2, 4, 9, 10, 11, 12, 33, 34, 35]
  | 12 => some [1, 2, 4, 9, 10, 12, 13, 33, 34, 35]
  | 13 => some [1, 2, 4, 9, 10, 12, 13, 33, 34, 35, 62]
  | 14 => some [4, 5]
  | 15 => some [1, 2, 4, 9, 10, 33, 34, 35]
  | 16 => some [1, 2, 4, 9, 10, 33, 34, 35]
  | 17 => some [4, 5]
  | _ => none
def loop45 : Nat → Option (List Nat)
  | 3 => some [1, 2, 4, 6, 14, 15, 16]
  | 10 => some [1, 2, 4, 9, 10, 33, 34, 35]
  | _ => none
def reg46 : Nat → Option (List Nat)
  | 0 => some [0, 1]
  | 1 => some [1, 7, 8, 9]
  | 2 => some [1, 7, 8, 9, 10]
  | 3 => some [1, 5, 6, 7, 8, 9]
  | 4 => some [1, 5, 7, 8, 9, 16]
  | 5 => some [4]
  | 6 => some [1, 7, 8, 9]
  | 7 => some [4]
  | _ => none
def loop46 : Nat → Option (List Nat)
  | 2 => some [1, 7, 8, 9]
  | _ => none
def reg47 : Nat → Option (List Nat)
  | 0 => some [0, 1]
  | 1 => some [0, 1]
  | 2 => some [1]
  | 3 => some [4, 5]
  | _ => none
def reg48 : Nat → Option (List Nat)
  | 0 => some [1, 2]
  | 1 => some [1, 2, 9]
  | 2 => some [1, 2, 9, 10]
  | 3 => some [4]
  | 4 => some [1, 2, 9, 12]
  | 5 => some [4]
  | 6 => some [1, 2, 9, 17]
  | 7 => some [1, 2, 9, 17]
  | 8 => some [1, 2, 5]
  | 9 => some [1, 2, 5, 22]
  | 10 => some [1, 2, 5]
  | 11 => some [1, 6]
  | 12 => some [6, 36]
  | 13 => some [4]
  | 14 => some [4]
  | 15 => some [2, 41]
  | 16 => some [2, 7]
  | 17 => some [2, 7, 53]
  | 18 => some [2, 7]
  | 19 => some [4]
  | 20 => some [4]
  | _ => none
def reg49 : Nat → Option (List Nat)
  | 0 => some [0]
  | 1 => some [2]
  | _ => none
def reg50 : Nat → Option (List Nat)
  | 0 => some [2, 3]
  | 1 => some [2, 3, 10]
  | 2 => some [2, 3, 10, 11]
  | 3 => some [2, 3, 10, 11]
  | 4 => some [4]
  | 5 => some [2, 3, 10, 17]
  | 6 => some [4]
  | 7 => some [2, 3, 41]
  | 8 => some [4]
  | 9 => some [2, 3, 5, 6]
  | 10 => some [2, 3, 5, 6, 64]
  | 11 => some [2, 3, 5, 6]
  | 12 => some [2, 3, 5, 6, 66, 67, 68]
  | 13 => some [2, 3, 5, 6, 66, 67, 68, 69]
  | 14 => some [2, 3, 5, 6, 7, 8, 66, 67, 68]
  | 15 => some [2, 3, 5, 6, 7, 8, 66, 67, 68, 74]
  | 16 => some [2, 3, 5, 6, 7, 8, 66, 67, 68]
  | 17 => some [2, 3, 5, 6, 7, 66, 67, 68]
  | 18 => some [2, 3, 5, 6, 7, 66, 67, 68, 87]
  | 19 => some [2, 3, 5, 6, 66, 67, 68]
  | 20 => some [2, 3, 5, 6, 66, 67, 68]
  | 21 => some [4]
  | _ => none
def loop50 : Nat → Option (List Nat)
  | 13 => some [2, 3, 5, 6, 66, 67, 68]
  | _ => none
def reg51 : Nat → Option (List Nat)
  | 0 => some [0]
  | 1 => some [2]
  | _ => none
def reg52 : Nat → Option (List Nat)
  | 0 => some [1]
  | 1 => some [1, 4]
  | 2 => some [1, 4, 5]
  | 3 => some [2]
  | 4 => some [1, 19]
  | 5 => some [2]
  | 6 => some [2]
  | _ => none
def reg53 : Nat → Option (List Nat)
  | 0 => some [0]
  | 1 => some [0, 3]
  | 2 => some [0, 3, 10]
  | 3 => some [2]
  | 4 => some [2]
  | _ => none
def reg54 : Nat → Option (List Nat)
  | 0 => some [2, 3]
  | 1 => some [2, 3, 17]
  | 2 => some [4]
  | 3 => some [2, 3, 5]
  | 4 => some [2, 3, 5, 7]
  | 5 => some [2, 3, 5, 7, 28, 29, 30]
  | 6 => some [2, 3, 5, 7, 28, 29, 30, 31]
  | 7 => some [2, 3, 5, 7, 8, 9, 28, 29, 30]
  | 8 => some [2, 3, 5, 7, 28, 29, 30]
  | 9 => some [2, 3, 5, 7, 28, 29, 30]
  | 10 => some [4]
  | _ => none
def loop54 : Nat → Option (List Nat)
  | 6 => some [2, 3, 5, 7, 28, 29, 30]
  | _ => none
def reg55 : Nat → Option (List Nat)
  | 0 => some [1]
  | 1 => some [2]
  | _ => none
def reg56 : Nat → Option (List Nat)
  | 0 => some [0, 1]
  | 1 => some [4, 5]
  | _ => none
def reg57 : Nat → Option (List Nat)
  | 0 => some [0, 2, 3]
  | 1 => some [0, 2, 3, 7]
  | 2 => some [2, 3]
  | 3 => some [0, 2, 3]
  | 4 => some [2, 3, 4]
  | 5 => some [2, 3, 4]
  | 6 => some [2, 3, 24]
  | 7 => some [2, 3]
  | 8 => some [2, 3, 28]
  | 9 => some [2, 3]
  | 10 => some [2, 3]
  | _ => none
def reg58 : Nat → Option (List Nat)
  | 0 => some [1, 2, 4, 5]
  | 1 => some [1, 2, 4, 5]
  | 2 => some [2, 4, 5, 6]
  | 3 => some [4, 5, 6]
  | 4 => some [4, 5]
  | _ => none
def reg59 : Nat → Option (List Nat)
  | 0 => some [1, 3, 5, 6]
  | 1 => some [6, 7]
  | _ => none
def reg60 : Nat → Option (List Nat)
  | 0 => some [0]
  | 1 => some [0, 3]
  | 2 => some [0, 3, 4]
  | 3 => some [0, 3, 4, 7, 8]
  | 4 => some [0, 3, 4, 7, 8, 9]
  | 5 => some [0, 3, 4, 5, 7, 8]
  | 6 => some [0, 3, 4, 5, 7, 8, 14]
  | 7 => some [0, 3, 5, 7, 8]
  | 8 => some [0, 3, 4, 7, 8]
  | 9 => some [0, 3, 4, 7, 8]
  | 10 => some [0, 3, 4, 28]
  | 11 => some [3]
  | 12 => some [2]
  | _ => none
def loop60 : Nat → Option (List Nat)
  | 4 => some [0, 3, 4, 7, 8]
  | _ => none
def reg61 : Nat → Option (List Nat)
  | 0 => some [0]
  | 1 => some [0, 9]
  | 2 => some [0]
  | 3 => some [2]
  | _ => none
def loop61 : Nat → Option (List Nat)
  | 1 => some [0]
  | _ => none
def reg62 : Nat → Option (List Nat)
  | 0 => some [0, 2]
  | 1 => some [0, 2, 10]
  | 2 => some [2, 3]
  | 3 => some [2, 4, 5]
  | 4 => some [2, 4, 18]
  | 5 => some [2, 3]
  | 6 => some [2, 6]
  | 7 => some [2, 6, 7]
  | 8 => some [2, 7, 25]
  | 9 => some [2, 3]
  | 10 => some [2, 7, 39]
  | 11 => some [2, 3]
  | 12 => some [2, 3]
  | _ => none
def reg63 : Nat → Option (List Nat)
  | 0 => some [0, 1]
  | 1 => some [0, 1]
  | 2 => some [0, 6]
  | 3 => some [0, 6, 23]
  | 4 => some [4, 5]
  | 5 => some [0]
  | 6 => some [0, 35]
  | 7 => some [4, 5]
  | 8 => some [4, 5]
  | _ => none
def reg64 : Nat → Option (List Nat)
  | 0 => some [1, 2, 3, 6]
  | 1 => some [1, 2, 3, 6, 12]
  | 2 => some [6, 7]
  | 3 => some [1, 3, 6, 8, 9]
  | 4 => some [1, 3, 6, 8, 21]
  | 5 => some [6, 7]
  | 6 => some [6, 7]
  | _ => none
def reg65 : Nat → Option (List Nat)
  | 0 => some [2, 3]
  | 1 => some [4]
  | _ => none
def reg66 : Nat → Option (List Nat)
  | 0 => some [0, 1, 2]
  | 1 => some [0, 1, 2, 14]
  | 2 => some [6]
  | 3 => some [1, 2, 15, 16, 17]
  | 4 => some [1, 2, 15, 16, 17, 18]
  | 5 => some [1, 2, 7, 8, 15, 16, 17]
  | 6 => some [1, 2, 8, 9, 15, 16, 17]
  | 7 => some [1, 2, 15, 16, 17, 30]
  | 8 => some [6]
  | 9 => some [1, 2, 15, 16, 17]
  | 10 => some [6]
  | _ => none
def loop66 : Nat → Option (List Nat)
  | 4 => some [1, 2, 15, 16, 17]
  | _ => none
def reg67 : Nat → Option (List Nat)
  | 0 => some [1, 2]
  | 1 => some [1, 2, 3]
  | 2 => some [2, 3, 12, 13, 14]
  | 3 => some [2, 3, 12, 13, 14, 15]
  | 4 => some [2, 3, 5, 12, 13, 14]
  | 5 => some [2, 3, 12, 13, 14]
  | 6 => some [2, 3, 12, 13, 14]
  | 7 => some [2]
  | _ => none
def loop67 : Nat → Option (List Nat)
  | 3 => some [2, 3, 12, 13, 14]
  | _ => none
def reg68 : Nat → Option (List Nat)
  | 0 => some [1, 2]
  | 1 => some [1, 2, 3]
  | 2 => some [2, 3, 13, 14, 15]
  | 3 => some [2, 3, 13, 14, 15, 16]
  | 4 => some [2, 3, 5, 13, 14, 15]
  | 5 => some [2, 3, 13, 14, 15]
  | 6 => some [2, 3, 13, 14, 15]
  | 7 => some [2]
  | _ => none
def loop68 : Nat → Option (List Nat)
  | 3 => some [2, 3, 13, 14, 15]
  | _ => none
def reg69 : Nat → Option (List Nat)
  | 0 => some [1, 2]
  | 1 => some [1, 2, 6]
  | 2 => some [2, 3]
  | 3 => some [2, 3]
  | _ => none
def reg70 : Nat → Option (List Nat)
  | 0 => some [2, 3, 4]
  | 1 => some [2, 3, 4, 5]
  | 2 => some [3, 4, 5, 6]
  | 3 => some [3, 4, 5, 6, 15, 16, 17]
  | 4 => some [3, 4, 5, 6, 15, 16, 17, 18]
  | 5 => some [3, 4, 5, 6, 8, 15, 16, 17]
  | 6 => some [3, 4, 5, 6, 15, 16, 17]
  | 7 => some [3, 4, 5, 6, 15, 16, 17]
  | 8 => some [4]
  | _ => none
def loop70 : Nat → Option (List Nat)
  | 4 => some [3, 4, 5, 6, 15, 16, 17]
  | _ => none
def reg71 : Nat → Option (List Nat)
  | 0 => some [1]
  | 1 => some [1, 7]
  | 2 => some [2]
  | 3 => some [1, 4]
  | 4 => some [2]
  | _ => none
def reg72 : Nat → Option (List Nat)
  | 0 => some [1, 3, 5]
  | 1 => some [5, 7, 8]
  | 2 => some [6]
  | _ => none
def reg73 : Nat → Option (List Nat)
  | 0 => some [1]
  | 1 => some [1, 3]
  | 2 => some [3, 7, 8, 9]
  | 3 => some [3, 7, 8, 9, 10]
  | 4 => some [3, 5, 7, 8, 9]
  | 5 => some [3, 7, 8, 9]
  | 6 => some [3, 7, 8, 9]
  | 7 => some [2]
  | _ => none
def loop73 : Nat → Option (List Nat)
  | 3 => some [3, 7, 8, 9]
  | _ => none
def reg74 : Nat → Option (List Nat)
  | 0 => some [0, 1]
  | 1 => some [3]
  | _ => none
def reg75 : Nat → Option (List Nat)
  | 0 => some [1, 2]
  | 1 => some [1, 2, 5]
  | 2 => some [2, 5, 6]
  | 3 => some [2, 5, 6, 16]
  | 4 => some [2, 5, 6, 7]
  | 5 => some [2, 5, 6, 7]
  | 6 => some [2, 5, 6, 7, 25]
  | 7 => some [2, 5, 6, 7]
  | 8 => some [2, 5, 6]
  | 9 => some [4]
  | _ => none
def loop75 : Nat → Option (List Nat)
  | 3 => some [2, 5, 6]
  | _ => none
def reg76 : Nat → Option (List Nat)
  | 0 => some [1, 2]
  | 1 => some [1, 2, 3]
  | 2 => some [1, 2, 3]
  | 3 => some [1, 2, 9, 10, 11]
  | 4 => some [1, 2, 9, 10, 11, 12]
  | 5 => some [1, 2, 5, 9, 10, 11]
  | 6 => some [1, 2, 9, 10, 11]
  | 7 => some [1, 2, 9, 10, 11]
  | 8 => some [2]
  | _ => none
def loop76 : Nat → Option (List Nat)
  | 4 => some [1, 2, 9, 10, 11]
  | _ => none
def reg77 : Nat → Option (List Nat)
  | 0 => some [1, 2]
  | 1 => some [1, 2, 5]
  | 2 => some [2, 5, 6]
  | 3 => some [2, 5, 6, 12]
  | 4 => some [2, 5, 6, 7]
  | 5 => some [2, 5, 6, 7]
  | 6 => some [2, 5, 6, 7, 27]
  | 7 => some [2, 5, 6, 7]
  | 8 => some [2, 5, 6]
  | 9 => some [4]
  | _ => none
def loop77 : Nat → Option (List Nat)
  | 3 => some [2, 5, 6]
  | _ => none
def reg78 : Nat → Option (List Nat)
  | 0 => some [1, 2, 4]
  | 1 => some [1, 2, 4, 5]
  | 2 => some [1, 2, 4, 5, 15, 16, 17]
  | 3 => some [1, 2, 4, 5, 15, 16, 17, 18]
  | 4 => some [1, 2, 4, 5, 6, 7, 15, 16, 17]
  | 5 => some [1, 2, 4, 5, 15, 16, 17]
  | 6 => some [1, 2, 4, 5, 15, 16, 17]
  | 7 => some [1, 2, 4, 5, 8]
  | 8 => some [2, 4, 5, 8, 30, 31, 32]
  | 9 => some [2, 4, 5, 8, 30, 31, 32, 33]
  | 10 => some [2, 4, 5, 8, 10, 30, 31, 32]
  | 11 => some [2, 4, 5, 8, 30, 31, 32]
  | 12 => some [2, 4, 5, 8, 30, 31, 32]
  | 13 => some [4]
  | _ => none
def loop78 : Nat → Option (List Nat)
  | 3 => some [1, 2, 4, 5, 15, 16, 17]
  | 9 => some [2, 4, 5, 8, 30, 31, 32]
  | _ => none
def reg79 : Nat → Option (List Nat)
  | 0 => some [0, 8, 9]
  | 1 => some [0, 8, 9, 10]
  | 2 => some [0, 2, 8, 9]
  | 3 => some [0, 8, 9]
  | 4 => some [0, 8, 9]
  | 5 => some [0, 24, 25]
  | 6 => some [0, 24, 25, 26]
  | 7 => some [0, 3, 24, 25]
  | 8 => some [0, 24, 25]
  | 9 => some [0, 24, 25]
  | 10 => some []
  | _ => none
def loop79 : Nat → Option (List Nat)
  | 1 => some [0, 8, 9]
  | 6 => some [0, 24, 25]
  | _ => none
def reg80 : Nat → Option (List Nat)
  | 0 => some [1, 2]
  | 1 => some [4]
  | _ => none
def reg81 : Nat → Option (List Nat)
  | 0 => some [1, 2]
  | 1 => some [4]
  | _ => none
def reg82 : Nat → Option (List Nat)
  | 0 => some [0, 1]
  | 1 => some [0, 1, 7, 8]
  | 2 => some [0, 1, 7, 8, 9]
  | 3 => some [0, 1, 5, 7, 8]
  | 4 => some [0, 1, 5, 7, 8, 16]
  | 5 => some [4]
  | 6 => some [0, 1, 7, 8]
  | 7 => some [4]
  | _ => none
def loop82 : Nat → Option (List Nat)
  | 2 => some [0, 1, 7, 8]
  | _ => none
def reg83 : Nat → Option (List Nat)
  | 0 => some [2, 3]
  | 1 => some [2, 3, 5]
  | 2 => some [2, 3, 5, 13]
  | 3 => some [4]
  | 4 => some [2, 3, 6]
  | 5 => some [2, 3, 6, 21]
  | 6 => some [4]
  | 7 => some [4]
  | _ => none
def reg84 : Nat → Option (List Nat)
  | 0 => some [2, 3, 4, 6]
  | 1 => some [2, 3, 4, 6, 11]
  | 2 => some [2, 3, 4, 6, 11, 12]
  | 3 => some [6]
  | 4 => some [2, 3, 4, 6, 11, 18]
  | 5 => some [6]
  | 6 => some [2, 3, 4, 6, 11, 23]
  | 7 => some [6]
  | 8 => some [2, 3, 4, 6, 47]
  | 9 => some [6]
  | 10 => some [2, 3, 4, 6, 7]
  | 11 => some [2, 3, 4, 6, 7, 66, 67, 68]
  | 12 => some [2, 3, 4, 6, 7, 66, 67, 68, 69]
  | 13 => some [2, 3, 4, 6, 7, 9, 66, 67, 68]
  | 14 => some [2, 3, 4, 6, 7, 66, 67, 68]
  | 15 => some [2, 3, 4, 6, 7, 66, 67, 68]
  | 16 => some [3, 4, 6, 7, 87]
  | 17 => some [6]
  | 18 => some [3, 6, 7]
  | 19 => some [6]
  | _ => none
def loop84 : Nat → Option (List Nat)
  | 12 => some [2, 3, 4, 6, 7, 66, 67, 68]
  | _ => none
def reg85 : Nat → Option (List Nat)
  | 0 => some [0, 1, 3]
  | 1 => some [3]
  | _ => none
def reg86 : Nat → Option (List Nat)
  | 0 => some [2, 3]
  | 1 => some [2, 3, 12]
  | 2 => some [4]
  | 3 => some [2, 3, 5]
  | 4 => some [2, 3, 5, 29]
  | 5 => some [2, 3, 5]
  | 6 => some [2, 3, 5, 6]
  | 7 => some [2, 3, 5, 6, 44]
  | 8 => some [4]
  | 9 => some [2, 3, 52]
  | 10 => some [4]
  | 11 => some [2, 3, 7]
  | 12 => some [2, 3, 7, 71]
  | 13 => some [2, 3, 7]
  | 14 => some [2, 3, 7, 84]
  | 15 => some [4]
  | 16 => some [4]
  | _ => none
def loop86 : Nat → Option (List Nat)
  | 4 => some [2, 3, 5]
  | 12 => some [2, 3, 7]
  | _ => none
def reg87 : Nat → Option (List Nat)
  | 0 => some [2, 3]
  | 1 => some [2, 3, 6]
  | 2 => some [2, 3, 6, 9, 10]
  | 3 => some [2, 3, 6, 9, 10, 11]
  | 4 => some [2, 3, 6, 9, 10]
  | 5 => some [2, 3, 6, 9, 10]
  | 6 => some [2, 3, 6, 20]
  | 7 => some [2, 3, 6, 29]
  | 8 => some [3, 6]
  | 9 => some [2, 3, 6, 35]
  | 10 => some [2, 3, 46]
  | 11 => some [4, 5]
  | 12 => some [3, 6]
  | 13 => some [2, 3, 6, 55]
  | 14 => some [2, 3, 6, 60, 61]
  | 15 => some [2, 3, 6, 60, 61, 62]
  | 16 => some [2, 3, 6, 60, 61]
  | 17 => some [2, 3, 6, 60, 61]
  | 18 => some [4, 5]
  | _ => none
def loop87 : Nat → Option (List Nat)
  | 3 => some [2, 3, 6, 9, 10]
  | 15 => some [2, 3, 6, 60, 61]
  | _ => none
def reg88 : Nat → Option (List Nat)
  | 0 => some [0]
  | 1 => some [2]
  | _ => none
def reg89 : Nat → Option (List Nat)
  | 0 => some [0, 3, 4]
  | 1 => some [0, 3, 4, 5]
  | 2 => some [0, 3, 4, 5, 18, 19, 20]
  | 3 => some [0, 3, 4, 5, 18, 19, 20, 21]
  | 4 => some [0, 3, 4, 5, 6, 7, 18, 19, 20]
  | 5 => some [0, 3, 4, 5, 6, 7, 8, 9, 18, 19, 20]
  | 6 => some [0, 3, 4, 5, 6, 7, 8, 9, 18, 19, 20, 33]
  | 7 => some [0, 3, 4, 5, 6, 7, 8, 9, 18, 19, 20]
  | 8 => some [0, 3, 4, 5, 6, 7, 8, 9, 18, 19, 20, 42]
  | 9 => some [0, 3, 4, 5, 6, 7, 8, 9, 18, 19, 20]
  | 10 => some [0, 3, 4, 5, 6, 7, 8, 18, 19, 20, 53]
  | 11 => some [0, 3, 4, 5, 6, 8, 18, 19, 20]
  | 12 => some [0, 3, 4, 5, 6, 8, 18, 19, 20, 69]
  | 13 => some [0, 3, 4, 5, 6, 8, 18, 19, 20]
  | 14 => some [0, 3, 4, 5, 6, 8, 18, 19, 20, 84]
  | 15 => some [0, 3, 4, 5, 18, 19, 20]
  | 16 => some [0, 3, 4, 5, 18, 19, 20]
  | 17 => some [4, 5, 99]
  | 18 => some [4, 5, 10]
  | 19 => some [4, 5, 10, 101, 102, 103]
  | 20 => some [4, 5, 10, 101, 102, 103, 104]
  | 21 => some [4, 5, 10, 12, 101, 102, 103]
  | 22 => some [4, 5, 10, 101, 102, 103]
  | 23 => some [4, 5, 10, 101, 102, 103]
  | 24 => some [4, 5, 10, 113, 114]
  | 25 => some [4, 5, 10, 113, 114, 115]
  | 26 => some [4, 5, 10, 13, 113, 114]
  | 27 => some [4, 5, 10, 113, 114]
  | 28 => some [4, 5, 10, 113, 114]
  | 29 => some [4]
  | _ => none
def loop89 : Nat → Option (List Nat)
  | 3 => some [0, 3, 4, 5, 18, 19, 20]
  | 6 => some [0, 3, 4, 5, 6, 7, 8, 9, 18, 19, 20]
  | 20 => some [4, 5, 10, 101, 102, 103]
  | 25 => some [4, 5, 10, 113, 114]
  | _ => none
def reg90 : Nat → Option (List Nat)
  | 0 => some [1]
  | 1 => some [1, 3]
  | 2 => some [2]
  | _ => none
def reg91 : Nat → Option (List Nat)
  | 0 => some [1, 3, 5]
  | 1 => some [3, 5, 7]
  | 2 => some [6]
  | _ => none
def reg92 : Nat → Option (List Nat)
  | 0 => some [1]
  | 1 => some [1, 3]
  | 2 => some [3, 7, 8, 9]
  | 3 => some [3, 7, 8, 9, 10]
  | 4 => some [3, 5, 7, 8, 9]
  | 5 => some [3, 7, 8, 9]
  | 6 => some [3, 7, 8, 9]
  | 7 => some [2]
  | _ => none
def loop92 : Nat → Option (List Nat)
  | 3 => some [3, 7, 8, 9]
  | _ => none
def reg93 : Nat → Option (List Nat)
  | 0 => some [0, 1]
  | 1 => some [0, 1, 7, 8]
  | 2 => some [0, 1, 7, 8, 9]
  | 3 => some [0, 1, 5, 7, 8]
  | 4 => some [0, 1, 5, 7, 8, 16]
  | 5 => some [4]
  | 6 => some [0, 1, 7, 8]
  | 7 => some [4]
  | _ => none
def loop93 : Nat → Option (List Nat)
  | 2 => some [0, 1, 7, 8]
  | _ => none
def reg95 : Nat → Option (List Nat)
  | 0 => some [0]
  | 1 => some [2]
  | _ => none
def reg96 : Nat → Option (List Nat)
  | 0 => some [1]
  | 1 => some [1, 5]
  | 2 => some [1, 5, 6]
  | 3 => some [2]
  | 4 => some [1, 5, 8]
  | 5 => some [2]
  | 6 => some [1, 5, 13]
  | 7 => some [1, 3]
  | 8 => some [1, 3, 25]
  | 9 => some [1, 3]
  | 10 => some [2]
  | 11 => some [1, 5, 35]
  | 12 => some [2]
  | 13 => some [1, 5, 44]
  | 14 => some [2]
  | 15 => some [1, 53]
  | 16 => some [2]
  | 17 => some [2]
  | _ => none
def reg97 : Nat → Option (List Nat)
  | 0 => some [0, 2, 4]
  | 1 => some [2, 4, 8]
  | 2 => some [2, 4, 8, 9]
  | 3 => some [6]
  | 4 => some [2, 4, 8, 15]
  | 5 => some [6]
  | 6 => some [2, 4, 26]
  | 7 => some [6]
  | 8 => some [2, 4, 34, 35]
  | 9 => some [2, 4, 34, 35, 36]
  | 10 => some [2, 4, 7, 34, 35]
  | 11 => some [2, 4, 34, 35]
  | 12 => some [2, 4, 34, 35]
  | 13 => some [6]
  | _ => none
def loop97 : Nat → Option (List Nat)
  | 9 => some [2, 4, 34, 35]
  | _ => none
def reg98 : Nat → Option (List Nat)
  | 0 => some [0, 1, 3]
  | 1 => some [0, 1, 3, 12]
  | 2 => some [0, 1, 3]
  | 3 => some [0, 1, 3, 4, 5]
  | 4 => some [0, 1, 3, 5, 25]
  | 5 => some [0, 1, 3]
  | _ => none
def loop98 : Nat → Option (List Nat)
  | 1 => some [0, 1, 3]
  | _ => none
def reg99 : Nat → Option (List Nat)
  | 0 => some [0, 1]
  | 1 => some [4, 5, 6]
  | _ => none
def reg100 : Nat → Option (List Nat)
  | 0 => some [0, 1]
  | 1 => some [4, 5]
  | _ => none
def reg101 : Nat → Option (List Nat)
  | 0 => some [0, 1]
  | 1 => some [0, 1, 12]
  | 2 => some [4]
  | 3 => some [0, 1, 21]
  | 4 => some [4]
  | 5 => some [0, 1, 5, 6]
  | 6 => some [0, 1, 5, 31]
  | 7 => some [4]
  | 8 => some [4]
  | _ => none
def reg102 : Nat → Option (List Nat)
  | 0 => some [0, 1, 2]
  | 1 => some [0, 1, 2, 7]
  | 2 => some [0, 1, 2, 4]
  | 3 => some [0, 1, 2, 14]
  | 4 => some [0, 1]
  | 5 => some []
  | _ => none
def reg103 : Nat → Option (List Nat)
  | 0 => some [0, 2]
  | 1 => some [0, 2, 3]
  | 2 => some [0, 2, 3, 6]
  | 3 => some [2]
  | 4 => some [0, 2, 3, 14]
  | 5 => some [2]
  | 6 => some [2]
  | _ => none
def reg104 : Nat → Option (List Nat)
  | 0 => some [0]
  | 1 => some [0]
  | 2 => some [0, 15]
  | 3 => some [2]
  | 4 => some [2]
  | _ => none
def reg105 : Nat → Option (List Nat)
  | 0 => some [0, 1, 2]
  | 1 => some [0, 1, 2, 7]
  | 2 => some [0, 1, 2, 4]
  | 3 => some [0, 1, 2, 14]
  | 4 => some [0, 1]
  | 5 => some []
  | _ => none
def reg106 : Nat → Option (List Nat)
  | 0 => some [0, 3, 4]
  | 1 => some [0, 3, 4, 10]
  | 2 => some [0, 3, 4, 10, 11]
  | 3 => some [0, 3, 4, 10, 11]
  | 4 => some [4]
  | 5 => some [0, 3, 4, 10, 17]
  | 6 => some [0, 3, 4]
  | 7 => some [0, 3, 4, 5]
  | 8 => some [0, 3, 4, 5]
  | 9 => some [0, 4, 5, 6]
  | 10 => some [4, 5, 6]
  | 11 => some [4]
  | 12 => some [0, 3, 4, 10, 41]
  | 13 => some [0, 3, 4, 7]
  | 14 => some [0, 3, 4, 7, 45]
  | 15 => some [0, 3, 4]
  | 16 => some [0, 3, 4, 7]
  | 17 => some [4]
  | 18 => some [0, 3, 4, 58]
  | 19 => some [0, 3, 4]
  | 20 => some [3, 4, 8]
  | 21 => some [4, 8, 73]
  | 22 => some [4, 8]
  | 23 => some [4]
  | 24 => some [0, 3, 4]
  | 25 => some [4]
  | _ => none
def reg107 : Nat → Option (List Nat)
  | 0 => some [0]
  | 1 => some [0]
  | 2 => some [0, 15]
  | 3 => some [2]
  | 4 => some [2]
  | _ => none
def reg108 : Nat → Option (List Nat)
  | 0 => some [1, 3, 5, 6]
  | 1 => some [3, 5, 6, 8]
  | 2 => some [3, 5, 6, 17]
  | 3 => some [6, 7]
  | 4 => some [3, 6, 9]
  | 5 => some [6, 9, 25]
  | 6 => some [6, 7]
  | 7 => some [6, 7]
  | _ => none
def reg109 : Nat → Option (List Nat)
  | 0 => some [0, 1]
  | 1 => some [0, 1, 6]
  | 2 => some [0, 1, 6, 7]
  | 3 => some [0, 1, 6, 7, 12]
  | 4 => some [0, 1, 6, 7, 8]
  | 5 => some [0, 1, 6, 7, 8, 15]
  | 6 => some [0, 1, 6, 7]
  | 7 => some [0, 1, 6, 7, 8, 22]
  | 8 => some [0, 1, 6, 7, 8, 36]
  | 9 => some [0, 1, 6, 7, 8]
  | 10 => some [0, 1, 6, 7, 8, 39]
  | 11 => some [4, 5]
  | 12 => some [0, 1, 6, 8]
  | 13 => some [0, 1, 6, 7]
  | 14 => some [4, 5]
  | _ => none
def loop109 : Nat → Option (List Nat)
  | 3 => some [0, 1, 6, 7]
  | 8 => some [0, 1, 6, 7, 8]
  | _ => none
def reg110 : Nat → Option (List Nat)
  | 0 => some [0, 2]
  | 1 => some [0, 2, 3]
  | 2 => some [0, 2, 3, 9, 10, 11]
  | 3 => some [0, 2, 3, 9, 10, 11, 12]
  | 4 => some [0, 2, 3, 5, 9, 10, 11]
  | 5 => some [0, 2, 3, 5, 9, 10, 11, 17]
  | 6 => some [0, 2, 3, 5]
  | 7 => some [0, 2, 3, 5, 6]
  | 8 => some [0, 2, 3, 6, 22]
  | 9 => some [0, 2, 3, 6]
  | 10 => some [2]
  | 11 => some [0, 2, 3, 9, 10, 11]
  | 12 => some [2]
  | _ => none
def loop110 : Nat → Option (List Nat)
  | 3 => some [0, 2, 3, 9, 10, 11]
  | _ => none
def reg111 : Nat → Option (List Nat)
  | 0 => some [1, 2, 4]
  | 1 => some [2, 4, 6, 7]
  | 2 => some [2, 4, 6, 16]
  | 3 => some [4, 5]
  | 4 => some [2, 4, 8]
  | 5 => some [4, 8, 9]
  | 6 => some [4, 5]
  | _ => none
def reg112 : Nat → Option (List Nat)
  | 0 => some [1, 3, 5, 6]
  | 1 => some [1, 3, 5, 6, 12]
  | 2 => some [6, 7]
  | 3 => some [3, 6, 8, 9]
  | 4 => some [3, 6, 8, 21]
  | 5 => some [6, 7]
  | 6 => some [6, 8, 25]
  | 7 => some [6, 7]
  | 8 => some [6, 7]
  | _ => none
def reg113 : Nat → Option (List Nat)
  | 0 => some [0, 1, 2]
  | 1 => some [0, 1, 2, 14]
  | 2 => some [6]
  | 3 => some [1, 2, 15, 16, 17]
  | 4 => some [1, 2, 15, 16, 17, 18]
  | 5 => some [1, 2, 7, 8, 15, 16, 17]
  | 6 => some [1, 2, 8, 9, 15, 16, 17]
  | 7 => some [1, 2, 15, 16, 17, 30]
  | 8 => some [6]
  | 9 => some [1, 2, 15, 16, 17]
  | 10 => some [6]
  | _ => none
def loop113 : Nat → Option (List Nat)
  | 4 => some [1, 2, 15, 16, 17]
  | _ => none
def reg114 : Nat → Option (List Nat)
  | 0 => some [1, 2]
  | 1 => some [1, 2, 3]
  | 2 => some [2, 3, 11, 12, 13]
  | 3 => some [2, 3, 11, 12, 13, 14]
  | 4 => some [2, 3, 5, 11, 12, 13]
  | 5 => some [2, 3, 11, 12, 13]
  | 6 => some [2, 3, 11, 12, 13]
  | 7 => some [2]
  | _ => none
def loop114 : Nat → Option (List Nat)
  | 3 => some [2, 3, 11, 12, 13]
  | _ => none
def reg115 : Nat → Option (List Nat)
  | 0 => some [0, 1, 3]
  | 1 => some [3]
  | _ => none
def reg116 : Nat → Option (List Nat)
  | 0 => some [1, 3]
  | 1 => some [1, 2, 3]
  | 2 => some [2, 3, 9, 10, 11]
  | 3 => some [2, 3, 9, 10, 11, 12]
  | 4 => some [2, 3, 5, 9, 10, 11]
  | 5 => some [2, 3, 6, 7, 9, 10, 11]
  | 6 => some [2, 3, 9, 10, 11]
  | 7 => some [2, 3, 9, 10, 11]
  | 8 => some [2, 3]
  | _ => none
def loop116 : Nat → Option (List Nat)
  | 3 => some [2, 3, 9, 10, 11]
  | _ => none
def reg117 : Nat → Option (List Nat)
  | 0 => some [1]
  | 1 => some [1, 3]
  | 2 => some [1, 30]
  | 3 => some [2]
  | 4 => some [32, 33, 34]
  | 5 => some [32, 33, 34, 35]
  | 6 => some [5, 32, 33, 34]
  | 7 => some [32, 33, 34, 40]
  | 8 => some [2]
  | 9 => some [32, 33, 34]
  | 10 => some [2]
  | _ => none
def loop117 : Nat → Option (List Nat)
  | 5 => some [32, 33, 34]
  | _ => none
def reg118 : Nat → Option (List Nat)
  | 0 => some [0]
  | 1 => some [0, 4]
  | 2 => some [2]
  | 3 => some [2]
  | _ => none
def reg119 : Nat → Option (List Nat)
  | 0 => some [3, 4, 5]
  | 1 => some [3, 4, 5, 6]
  | 2 => some [3, 4, 6]
  | 3 => some []
  | _ => none
def reg120 : Nat → Option (List Nat)
  | 0 => some []
  | _ => none
def reg121 : Nat → Option (List Nat)
  | 0 => some [0, 1]
  | 1 => some [0, 1, 7, 8, 9]
  | 2 => some [0, 1, 7, 8, 9, 10]
  | 3 => some [0, 1, 5, 6, 7, 8, 9]
  | 4 => some [0, 1, 5, 6, 7, 8, 9, 16]
  | 5 => some [4]
  | 6 => some [0, 1, 5, 7, 8, 9, 20]
  | 7 => some [4]
  | 8 => some [0, 1, 7, 8, 9]
  | 9 => some [4]
  | _ => none
def loop121 : Nat → Option (List Nat)
  | 2 => some [0, 1, 7, 8, 9]
  | _ => none
def reg122 : Nat → Option (List Nat)
  | 0 => some [2, 3, 4]
  | 1 => some [2, 3, 4, 13]
  | 2 => some [6]
  | 3 => some [2, 4, 7]
  | 4 => some [2, 7, 25, 26, 27]
  | 5 => some [2, 7, 25, 26, 27, 28]
  | 6 => some [2, 7, 9, 10, 25, 26, 27]
  | 7 => some [2, 7, 25, 26, 27]
  | 8 => some [2, 7, 25, 26, 27]
  | 9 => some [6]
  | _ => none
def loop122 : Nat → Option (List Nat)
  | 5 => some [2, 7, 25, 26, 27]
  | _ => none
def reg123 : Nat → Option (List Nat)
  | 0 => some [1, 2]
  | 1 => some [1, 2]
  | 2 => some [1, 2, 5]
  | 3 => some [1, 2, 5, 16]
  | 4 => some [1, 2, 5]
  | 5 => some [1, 2, 5]
  | 6 => some [4]
  | _ => none
def loop123 : Nat → Option (List Nat)
  | 3 => some [1, 2, 5]
  | _ => none
def reg124 : Nat → Option (List Nat)
  | 0 => some [1, 2]
  | 1 => some [1, 2]
  | 2 => some [1, 2, 5]
  | 3 => some [1, 2, 5, 16]
  | 4 => some [1, 2, 5]
  | 5 => some [1, 2, 5]
  | 6 => some [4]
  | _ => none
def loop124 : Nat → Option (List Nat)
  | 3 => some [1, 2, 5]
  | _ => none
def reg125 : Nat → Option (List Nat)
  | 0 => some [1, 2]
  | 1 => some [1, 2, 8, 9, 10]
  | 2 => some [1, 2, 8, 9, 10, 11]
  | 3 => some [1, 2, 6, 8, 9, 10]
  | 4 => some [1, 2, 8, 9, 10, 17]
  | 5 => some [4]
  | 6 => some [1, 2, 8, 9, 10]
  | 7 => some [4]
  | _ => none
def loop125 : Nat → Option (List Nat)
  | 2 => some [1, 2, 8, 9, 10]
  | _ => none
def reg126 : Nat → Option (List Nat)
  | 0 => some [0, 1]
  | 1 => some [0, 1, 5]
  | 2 => some [4]
  | 3 => some [9]
  | 4 => some [4]
  | 5 => some [4]
  | _ => none
def reg127 : Nat → Option (List Nat)
  | 0 => some [0, 1, 2]
  | 1 => some [6]
  | _ => none
def reg128 : Nat → Option (List Nat)
  | 0 => some [0, 1, 2]
  | 1 => some [6]
  | _ => none
def reg129 : Nat → Option (List Nat)
  | 0 => some [2, 3, 4]
  | 1 => some [2, 3, 4, 5]
  | 2 => some [2, 3, 4, 5, 16, 17, 18]
  | 3 => some [2, 3, 4, 5, 16, 17, 18, 19]
  | 4 => some [2, 3, 4, 5, 6, 7, 16, 17, 18]
  | 5 => some [2, 3, 4, 5, 6, 7, 8, 16, 17, 18]
  | 6 => some [2, 3, 4, 5, 6, 7, 8, 16, 17, 18, 25]
  | 7 => some [2, 3, 4, 5, 7, 8, 16, 17, 18]
  | 8 => some [2, 3, 4, 5, 16, 17, 18]
  | 9 => some [2, 3, 4, 5, 16, 17, 18]
  | 10 => some [2, 4, 5]
  | 11 => some [2, 4, 5, 9]
  | 12 => some [2, 4, 9, 40, 41, 42]
  | 13 => some [2, 4, 9, 40, 41, 42, 43]
  | 14 => some [2, 4, 9, 10, 11, 40, 41, 42]
  | 15 => some [2, 4, 9, 10, 11, 12, 40, 41, 42]
  | 16 => some [2, 4, 9, 11, 12, 40, 41, 42, 62]
  | 17 => some [2, 4, 9, 11, 12, 40, 41, 42, 65]
  | 18 => some [2, 4, 9, 40, 41, 42]
  | 19 => some [2, 4, 9, 11, 40, 41, 42]
  | 20 => some [2, 4, 9, 11, 40, 41, 42, 84]
  | 21 => some [2, 4, 9, 40, 41, 42]
  | 22 => some [2, 4, 9, 40, 41, 42]
  | 23 => some [4, 9, 95]
  | 24 => some [4, 9, 13]
  | 25 => some [4, 9, 13, 101, 102]
  | 26 => some [4, 9, 13, 101, 102, 103]
  | 27 => some [4, 9, 13, 14, 101, 102]
  | 28 => some [4, 9, 13, 101, 102]
  | 29 => some [4, 9, 13, 101, 102]
  | 30 => some [4]
  | _ => none
def loop129 : Nat → Option (List Nat)
  | 3 => some [2, 3, 4, 5, 16, 17, 18]
  | 13 => some [2, 4, 9, 40, 41, 42]
  | 26 => some [4, 9, 13, 101, 102]
  | _ => none
def reg130 : Nat → Option (List Nat)
  | 0 => some [0, 1]
  | 1 => some [0, 1, 5]
  | 2 => some [4]
  | 3 => some [9]
  | 4 => some [4]
  | 5 => some [4]
  | _ => none
def reg131 : Nat → Option (List Nat)
  | 0 => some [0]
  | 1 => some [2]
  | _ => none
def reg132 : Nat → Option (List Nat)
  | 0 => some [0, 1]
  | 1 => some [0, 1, 6]
  | 2 => some [0, 1]
  | 3 => some [4]
  | _ => none
def loop132 : Nat → Option (List Nat)
  | 1 => some [0, 1]
  | _ => none
def reg133 : Nat → Option (List Nat)
  | 0 => some [1, 2, 3]
  | 1 => some [1, 2, 3]
  | 2 => some [1, 2, 3, 43]
  | 3 => some [6]
  | 4 => some [1, 2, 3, 7]
  | 5 => some [1, 2, 3, 59]
  | 6 => some [6]
  | 7 => some [1, 2, 61, 62, 63]
  | 8 => some [1, 2, 61, 62, 63, 64]
  | 9 => some [1, 2, 9, 61, 62, 63]
  | 10 => some [1, 2, 61, 62, 63, 72]
  | 11 => some [6]
  | 12 => some [1, 2, 61, 62, 63]
  | 13 => some [6]
  | _ => none
def loop133 : Nat → Option (List Nat)
  | 8 => some [1, 2, 61, 62, 63]
  | _ => none
def reg134 : Nat → Option (List Nat)
  | 0 => some [0, 4, 5]
  | 1 => some [0, 4, 5]
  | 2 => some [0, 4, 5, 21]
  | 3 => some [6]
  | 4 => some [0, 4, 5, 45]
  | 5 => some [6]
  | 6 => some [0, 4, 5, 7]
  | 7 => some [0, 4, 5, 7, 50]
  | 8 => some [0, 4, 5, 55]
  | 9 => some [6]
  | 10 => some [0, 4, 5, 7, 50, 56]
  | 11 => some [6]
  | 12 => some [0, 4, 5, 7, 50, 74]
  | 13 => some [6]
  | 14 => some [0, 4, 5, 7, 50, 90]
  | 15 => some [6]
  | 16 => some [0, 4, 5, 7, 50, 118]
  | 17 => some [6]
  | 18 => some [0, 4, 5, 7, 146]
  | 19 => some [0, 4, 5, 151]
  | 20 => some [6]
  | 21 => some [0, 4, 153, 154, 155]
  | 22 => some [0, 4, 153, 154, 155, 156]
  | 23 => some [0, 4, 9, 153, 154, 155]
  | 24 => some [0, 4, 153, 154, 155, 166]
  | 25 => some [6]
  | 26 => some [0, 4, 153, 154, 155]
  | 27 => some [6]
  | _ => none
def loop134 : Nat → Option (List Nat)
  | 22 => some [0, 4, 153, 154, 155]
  | _ => none
def reg136 : Nat → Option (List Nat)
  | 0 => some [0, 1]
  | 1 => some [0, 1, 11]
  | 2 => some [0, 17]
  | 3 => some [4]
  | 4 => some [0, 5]
  | 5 => some [0, 5, 6]
  | 6 => some [0, 5, 6, 23]
  | 7 => some [0, 5, 6]
  | 8 => some [0, 5, 6, 7]
  | 9 => some [0, 5, 7]
  | 10 => some [5, 7, 34]
  | 11 => some [5, 7]
  | 12 => some [4]
  | 13 => some [4]
  | 14 => some [9]
  | 15 => some [4]
  | _ => none
def reg137 : Nat → Option (List Nat)
  | 0 => some [0]
  | 1 => some [0, 3]
  | 2 => some [3, 6, 7, 8]
  | 3 => some [3, 6, 7, 8, 9]
  | 4 => some [3, 4, 5, 6, 7, 8]
  | 5 => some [3, 5, 6, 7, 8, 14]
  | 6 => some [3, 5, 6, 7, 8]
  | 7 => some [3, 6, 7, 8]
  | 8 => some [3, 6, 7, 8]
  | 9 => some [2]
  | _ => none
def loop137 : Nat → Option (List Nat)
  | 3 => some [3, 6, 7, 8]
  | _ => none
def reg138 : Nat → Option (List Nat)
  | 0 => some [0, 1]
  | 1 => some [0, 1, 7]
  | 2 => some [0, 1, 7, 12]
  | 3 => some [4, 5, 6]
  | 4 => some [4, 5, 6]
  | _ => none
def reg139 : Nat → Option (List Nat)
  | 0 => some [0, 1]
  | 1 => some [0, 1, 9]
  | 2 => some [4, 5]
  | 3 => some [4, 5]
  | _ => none
def reg140 : Nat → Option (List Nat)
  | 0 => some [0, 1]
  | 1 => some [0, 1, 13]
  | 2 => some [0, 1]
  | 3 => some [4]
  | _ => none
def loop140 : Nat → Option (List Nat)
  | 1 => some [0, 1]
  | _ => none
def reg141 : Nat → Option (List Nat)
  | 0 => some [0, 2]
  | 1 => some [0, 2, 4]
  | 2 => some [0, 2, 4, 9]
  | 3 => some [0, 2, 4]
  | 4 => some [0, 2, 4, 5]
  | 5 => some [0, 2, 4, 5, 16]
  | 6 => some [2, 3]
  | 7 => some [0, 2, 4]
  | 8 => some [2, 3]
  | _ => none
def loop141 : Nat → Option (List Nat)
  | 2 => some [0, 2, 4]
  | _ => none
def reg142 : Nat → Option (List Nat)
  | 0 => some [0, 1]
  | 1 => some [0, 1, 7]
  | 2 => some [0, 1, 12]
  | 3 => some [0, 1]
  | 4 => some [4]
  | _ => none
def loop142 : Nat → Option (List Nat)
  | 1 => some [0, 1]
  | _ => none
def reg143 : Nat → Option (List Nat)
  | 0 => some [0, 1]
  | 1 => some [0, 1, 9]
  | 2 => some [0, 1, 5, 6]
  | 3 => some [0, 1, 6, 18]
  | 4 => some [0, 1]
  | 5 => some [4]
  | _ => none
def loop143 : Nat → Option (List Nat)
  | 1 => some [0, 1]
  | _ => none
def reg144 : Nat → Option (List Nat)
  | 0 => some [0, 2]
  | 1 => some [0, 2, 3]
  | 2 => some [0, 2, 3, 7]
  | 3 => some [2, 3]
  | 4 => some [2]
  | _ => none
def reg145 : Nat → Option (List Nat)
  | 0 => some [0, 1]
  | 1 => some [0, 8]
  | 2 => some [4]
  | 3 => some []
  | 4 => some [4]
  | _ => none
def reg146 : Nat → Option (List Nat)
  | 0 => some [0]
  | 1 => some [0]
  | 2 => some [0, 3]
  | 3 => some [0, 3, 32]
  | 4 => some [0, 3]
  | 5 => some [0, 3, 48]
  | 6 => some [0, 3]
  | 7 => some [0, 3, 4, 5]
  | 8 => some [4, 5]
  | 9 => some [4, 71]
  | 10 => some [2]
  | 11 => some [2]
  | _ => none
def loop146 : Nat → Option (List Nat)
  | 3 => some [0, 3]
  | _ => none
def reg147 : Nat → Option (List Nat)
  | 0 => some [7]
  | 1 => some []
  | _ => none
def reg148 : Nat → Option (List Nat)
  | 0 => some [0, 1]
  | 1 => some [0, 8]
  | 2 => some [4]
  | 3 => some []
  | 4 => some [4]
  | _ => none
def reg149 : Nat → Option (List Nat)
  | 0 => some [0, 2, 3, 5, 8]
  | 1 => some [0, 2, 3, 5, 8, 9]
  | 2 => some [0, 2, 3, 5, 8, 9, 13]
  | 3 => some [0, 2, 3, 5, 8, 9, 17]
  | 4 => some [0, 2, 3, 5, 8, 9]
  | 5 => some [0, 2, 3, 5, 8, 9]
  | 6 => some [0, 2, 3, 5, 8, 9, 28]
  | 7 => some [0, 2, 3, 5, 8, 9]
  | 8 => some [0, 2, 3, 5, 8, 9]
  | 9 => some [8]
  | _ => none
def loop149 : Nat → Option (List Nat)
  | 2 => some [0, 2, 3, 5, 8, 9]
  | _ => none
def reg150 : Nat → Option (List Nat)
  | 0 => some [0, 2]
  | 1 => some [2]
  | _ => none
def reg151 : Nat → Option (List Nat)
  | 0 => some [2, 3]
  | 1 => some [2, 3, 6]
  | 2 => some [2, 3, 6, 7]
  | 3 => some [2, 3, 6, 7]
  | 4 => some [4]
  | 5 => some [2, 3, 6, 10]
  | 6 => some [4]
  | 7 => some [2, 3, 32]
  | 8 => some [4]
  | 9 => some [4]
  | _ => none
def reg152 : Nat → Option (List Nat)
  | 0 => some [0]
  | 1 => some [2]
  | _ => none
def reg153 : Nat → Option (List Nat)
  | 0 => some [0, 1]
  | 1 => some [0, 1, 5]
  | 2 => some [0, 1, 5, 9]
  | 3 => some [0, 1, 5]
  | 4 => some [0, 1, 5, 16]
  | 5 => some [4]
  | 6 => some [4]
  | _ => none
def loop153 : Nat → Option (List Nat)
  | 2 => some [0, 1, 5]
  | _ => none
def reg154 : Nat → Option (List Nat)
  | 0 => some [0, 2]
  | 1 => some [0, 2, 3]
  | 2 => some [0, 2, 3, 7]
  | 3 => some [0, 2, 3]
  | 4 => some [2]
  | 5 => some [2]
  | _ => none
def reg155 : Nat → Option (List Nat)
  | 0 => some [0, 1]
  | 1 => some [4]
  | _ => none
def reg156 : Nat → Option (List Nat)
  | 0 => some [0, 7]
  | 1 => some []
  | 2 => some []
  | _ => none
def reg157 : Nat → Option (List Nat)
  | 0 => some [0, 1, 2, 6]
  | 1 => some [6]
  | _ => none
def reg158 : Nat → Option (List Nat)
  | 0 => some [1, 2, 4]
  | 1 => some [1, 2, 4, 5]
  | 2 => some [1, 2, 4, 5, 10]
  | 3 => some [4, 5]
  | 4 => some [1, 2, 4, 5, 10, 14]
  | 5 => some [1, 2, 4, 5, 10, 14]
  | 6 => some [4, 5]
  | 7 => some [1, 2, 4, 5, 10, 20]
  | 8 => some [1, 2, 4, 5]
  | 9 => some [1, 2, 4, 5, 6]
  | 10 => some [1, 2, 4, 5, 6]
  | 11 => some [1, 4, 5]
  | 12 => some [4, 5]
  | 13 => some [1, 2, 4, 5, 10, 43]
  | 14 => some [1, 2, 4, 5, 46]
  | 15 => some [1, 2, 4, 5]
  | 16 => some [1, 2, 4, 5]
  | 17 => some [1, 2, 4, 5, 59]
  | 18 => some [4, 5]
  | 19 => some [1, 2, 4, 5, 70]
  | 20 => some [1, 2, 4, 5]
  | 21 => some [1, 2, 4, 5, 7]
  | 22 => some [1, 2, 4, 5, 7, 84]
  | 23 => some [1, 2, 4, 5, 7]
  | 24 => some [1, 2, 4, 5, 7, 88]
  | 25 => some [1, 2, 4, 5, 7]
  | 26 => some [1, 2, 4, 5, 7]
  | 27 => some [4, 5]
  | 28 => some [4]
  | _ => none
def loop158 : Nat → Option (List Nat)
  | 22 => some [1, 2, 4, 5, 7]
  | _ => none
def reg159 : Nat → Option (List Nat)
  | 0 => some [1, 3, 5, 6]
  | 1 => some [1, 3, 5, 6, 8, 9]
  | 2 => some [1, 3, 5, 6, 8, 36]
  | 3 => some [6, 7]
  | 4 => some [1, 3, 5, 6, 8, 10]
  | 5 => some [1, 3, 6, 8, 10, 45, 46, 47]
  | 6 => some [1, 3, 6, 8, 10, 45, 46, 47, 48]
  | 7 => some [1, 3, 6, 8, 10, 11, 12, 45, 46, 47]
  | 8 => some [1, 3, 6, 8, 10, 13, 14, 45, 46, 47]
  | 9 => some [1, 3, 6, 8, 10, 13, 45, 46, 47, 63]
  | 10 => some [6, 7]
  | 11 => some [1, 3, 6, 8, 10, 45, 46, 47]
  | 12 => some [1, 3, 6, 8, 10, 45, 46, 47]
  | 13 => some [3, 6, 10, 74]
  | 14 => some [6, 10]
  | 15 => some [6, 7]
  | _ => none
def loop159 : Nat → Option (List Nat)
  | 6 => some [1, 3, 6, 8, 10, 45, 46, 47]
  | _ => none
def reg160 : Nat → Option (List Nat)
  | 0 => some [2, 3]
  | 1 => some [2, 3, 17]
  | 2 => some [4]
  | 3 => some [3, 5]
  | 4 => some [5, 25, 26, 27]
  | 5 => some [5, 25, 26, 27, 28]
  | 6 => some [5, 7, 8, 25, 26, 27]
  | 7 => some [5, 25, 26, 27, 37]
  | 8 => some [4]
  | 9 => some [5, 25, 26, 27]
  | 10 => some [4]
  | _ => none
def loop160 : Nat → Option (List Nat)
  | 5 => some [5, 25, 26, 27]
  | _ => none
def reg161 : Nat → Option (List Nat)
  | 0 => some [1, 2]
  | 1 => some [1, 2, 3]
  | 2 => some [2, 3, 13, 14, 15]
  | 3 => some [2, 3, 13, 14, 15, 16]
  | 4 => some [2, 3, 5, 13, 14, 15]
  | 5 => some [2, 3, 13, 14, 15]
  | 6 => some [2, 3, 13, 14, 15]
  | 7 => some [2]
  | _ => none
def loop161 : Nat → Option (List Nat)
  | 3 => some [2, 3, 13, 14, 15]
  | _ => none
def reg162 : Nat → Option (List Nat)
  | 0 => some [0]
  | 1 => some [3]
  | 2 => some [3, 4]
  | 3 => some [2]
  | 4 => some [6]
  | 5 => some [2]
  | 6 => some [2]
  | _ => none
def reg163 : Nat → Option (List Nat)
  | 0 => some [0]
  | 1 => some [3]
  | 2 => some [3, 4]
  | 3 => some [3, 4]
  | 4 => some [2]
  | 5 => some [3, 7]
  | 6 => some [3, 7]
  | 7 => some [3, 7]
  | 8 => some [3, 7]
  | 9 => some [2]
  | 10 => some [3, 12]
  | 11 => some [12]
  | 12 => some [2]
  | 13 => some [2]
  | _ => none
def reg164 : Nat → Option (List Nat)
  | 0 => some [2, 3, 4, 5]
  | 1 => some [2, 3, 4, 5, 9]
  | 2 => some [3, 4, 11, 12, 13]
  | 3 => some [3, 4, 11, 12, 13, 14]
  | 4 => some [3, 4, 7, 11, 12, 13]
  | 5 => some [3, 4, 11, 12, 13]
  | 6 => some [3, 4, 11, 12, 13]
  | 7 => some [2, 3, 4, 5, 9, 25]
  | 8 => some []
  | 9 => some [3, 4, 5, 9, 31]
  | 10 => some [3, 4, 5, 9, 33]
  | 11 => some [3, 4, 5]
  | 12 => some []
  | 13 => some [3, 4, 5, 55]
  | 14 => some []
  | _ => none
def loop164 : Nat → Option (List Nat)
  | 3 => some [3, 4, 11, 12, 13]
  | _ => none
def reg165 : Nat → Option (List Nat)
  | 0 => some [0, 1, 2]
  | 1 => some [0, 1, 2, 11, 12, 13]
  | 2 => some [0, 1, 2, 11, 12, 13, 14]
  | 3 => some [0, 1, 2, 7, 8, 11, 12, 13]
  | 4 => some [0, 1, 2, 7, 8, 11, 12, 13, 21]
  | 5 => some [6]
  | 6 => some [0, 1, 2, 8, 9, 11, 12, 13]
  | 7 => some [0, 1, 2, 10, 11, 12, 13]
  | 8 => some [0, 1, 2, 10, 11, 12, 13, 31]
  | 9 => some [6]
  | 10 => some [0, 1, 2, 11, 12, 13]
  | 11 => some [38]
  | 12 => some [6]
  | 13 => some [6]
  | _ => none
def loop165 : Nat → Option (List Nat)
  | 2 => some [0, 1, 2, 11, 12, 13]
  | _ => none
def reg166 : Nat → Option (List Nat)
  | 0 => some [0, 1, 2]
  | 1 => some [0, 1, 2, 11, 12, 13]
  | 2 => some [0, 1, 2, 11, 12, 13, 14]
  | 3 => some [0, 1, 2, 7, 8, 11, 12, 13]
  | 4 => some [0, 1, 2, 7, 8, 11, 12, 13, 21]
  | 5 => some [6]
  | 6 => some [0, 1, 2, 8, 9, 11, 12, 13]
  | 7 => some [0, 1, 2, 10, 11, 12, 13]
  | 8 => some [0, 1, 2, 10, 11, 12, 13, 31]
  | 9 => some [6]
  | 10 => some [0, 1, 2, 11, 12, 13]
  | 11 => some [38]
  | 12 => some [6]
  | 13 => some [6]
  | _ => none
def loop166 : Nat → Option (List Nat)
  | 2 => some [0, 1, 2, 11, 12, 13]
  | _ => none
def reg167 : Nat → Option (List Nat)
  | 0 => some [0, 1, 4]
  | 1 => some []
  | _ => none
def reg168 : Nat → Option (List Nat)
  | 0 => some [2, 3]
  | 1 => some [4]
  | _ => none
def reg169 : Nat → Option (List Nat)
  | 0 => some [0]
  | 1 => some [0, 3]
  | 2 => some [3, 6, 7, 8]
  | 3 => some [3, 6, 7, 8, 9]
  | 4 => some [3, 5, 6, 7, 8]
  | 5 => some [3, 5, 6, 7, 8, 13]
  | 6 => some [3, 5, 6, 7, 8]
  | 7 => some [3, 6, 7, 8]
  | 8 => some [2]
  | _ => none
def loop169 : Nat → Option (List Nat)
  | 3 => some [3, 6, 7, 8]
  | 5 => some [3, 5, 6, 7, 8]
  | _ => none
def reg170 : Nat → Option (List Nat)
  | 0 => some [0, 4, 5]
  | 1 => some [0, 4, 5, 36]
  | 2 => some [6]
  | 3 => some [4, 5, 40]
  | 4 => some [6]
  | 5 => some [5, 55]
  | 6 => some [6]
  | 7 => some [5, 7]
  | 8 => some [5, 7, 60]
  | 9 => some [5, 7]
  | 10 => some [5, 7, 75]
  | 11 => some [6]
  | 12 => some [6]
  | _ => none
def loop170 : Nat → Option (List Nat)
  | 8 => some [5, 7]
  | _ => none
def reg171 : Nat → Option (List Nat)
  | 0 => some [0]
  | 1 => some [0, 4]
  | 2 => some [2]
  | 3 => some [2]
  | _ => none
def reg172 : Nat → Option (List Nat)
  | 0 => some [0]
  | 1 => some [0, 3]
  | 2 => some [2]
  | _ => none
def reg173 : Nat → Option (List Nat)
  | 0 => some [0, 1, 4]
  | 1 => some [0, 1, 4, 20]
  | 2 => some [0, 1, 4, 5]
  | 3 => some [0, 1, 4, 5]
  | 4 => some [0, 1, 4, 6, 7]
  | 5 => some [0, 1, 4, 6, 8, 9]
  | 6 => some [0, 1, 4, 8, 9, 10, 11]
  | 7 => some [0, 1, 4, 8, 10, 11]
  | 8 => some [0, 1, 4, 10, 11]
  | 9 => some [0, 1, 4, 10]
  | 10 => some [0, 1, 4]
  | 11 => some [0, 1, 4]
  | 12 => some [0, 4, 12]
  | 13 => some [0, 4, 12, 99]
  | 14 => some [0, 4, 12, 13]
  | 15 => some [0, 4, 12, 13]
  | 16 => some [0, 4, 12, 14, 15]
  | 17 => some [0, 4, 12, 14]
  | 18 => some [0, 4, 12]
  | 19 => some [0, 4, 12]
  | 20 => some [0, 4, 12, 139]
  | 21 => some [0, 4, 12, 16]
  | 22 => some [0, 4, 12, 16]
  | 23 => some [0, 4, 12]
  | 24 => some [0, 4, 12]
  | 25 => some [0, 12, 161]
  | 26 => some []
  | _ => none
def loop173 : Nat → Option (List Nat)
  | 1 => some [0, 1, 4]
  | _ => none
def reg174 : Nat → Option (List Nat)
  | 0 => some [0, 1, 2, 3, 4, 10, 11]
  | 1 => some [0, 1, 2, 3, 4, 10, 11, 28]
  | 2 => some [0, 1, 2, 3, 4, 10, 11]
  | 3 => some [0, 1, 2, 3, 4, 10, 11, 12]
  | 4 => some [0, 1, 2, 3, 4, 10, 11, 12, 13]
  | 5 => some [0, 1, 2, 3, 4, 10, 11, 12, 13, 30]
  | 6 => some [0, 1, 2, 3, 4, 10, 11, 12, 13]
  | 7 => some [0, 1, 2, 3, 4, 10, 11, 12, 13, 34]
  | 8 => some [0, 1, 2, 3, 4, 10, 11, 12, 13, 14]
  | 9 => some [0, 1, 2, 3, 4, 10, 11, 12, 13, 14, 15]
  | 10 => some [0, 1, 3, 4, 10, 11, 12, 13, 14, 15, 16]
  | 11 => some [0, 1, 3, 4, 10, 11, 12, 13, 14, 15, 16, 46]
  | 12 => some [0, 1, 3, 4, 10, 11, 12, 13, 14, 15, 16]
  | 13 => some [0, 1, 3, 4, 10, 11, 12, 13, 14, 15, 16]
  | 14 => some [0, 1, 3, 4, 10, 11, 12, 13, 14, 15, 16]
  | 15 => some [0, 1, 3, 4, 10, 11, 12, 13]
  | 16 => some [0, 3, 4, 10, 11, 12, 13]
  | 17 => some [0, 1, 3, 4, 10, 11, 12, 13, 17]
  | 18 => some [0, 1, 3, 4, 10, 11, 12, 13, 17, 68]
  | 19 => some [0, 1, 3, 4, 10, 11, 12, 13, 17]
  | 20 => some [0, 1, 3, 4, 10, 11, 12, 13, 17, 18]
  | 21 => some [0, 3, 4, 10, 11, 12, 13, 17, 18]
  | 22 => some [0, 1, 3, 4, 10, 11, 12, 13, 17]
  | 23 => some [0, 1, 3, 4, 10, 11, 12, 13]
  | 24 => some [0, 3, 4, 10, 11, 12, 13]
  | 25 => some [0, 4, 10, 11, 12, 13, 89]
  | 26 => some [0, 4, 10, 11, 12, 13]
  | 27 => some [0, 4, 10, 11, 12, 13]
  | 28 => some [0, 10, 11, 12, 13, 94]
  | 29 => some [10, 11]
  | 30 => some [10, 11]
  | _ => none
def loop174 : Nat → Option (List Nat)
  | 11 => some [0, 1, 3, 4, 10, 11, 12, 13, 14, 15, 16]
  | 18 => some [0, 1, 3, 4, 10, 11, 12, 13, 17]
  | _ => none
def reg175 : Nat → Option (List Nat)
  | 0 => some [0, 1]
  | 1 => some [0, 1, 5]
  | 2 => some [0, 1, 5, 16]
  | 3 => some [4]
  | 4 => some [0, 1, 5, 24]
  | 5 => some [4]
  | 6 => some [0, 1, 5, 31]
  | 7 => some [4]
  | 8 => some [0, 1, 5, 36]
  | 9 => some [4]
  | 10 => some [0, 1, 5, 6]
  | 11 => some [0, 1, 5, 6, 7]
  | 12 => some [0, 1, 5, 6, 7, 8]
  | 13 => some [0, 1, 5, 6, 7, 8, 9]
  | 14 => some [0, 1, 5, 6, 7, 8, 9, 10]
  | 15 => some [0, 1, 5, 6, 7, 8, 9, 10, 59]
  | 16 => some [0, 1, 5, 6, 7, 8, 9, 10, 64]
  | 17 => some [0, 1, 5, 6, 7, 8, 9, 10, 11]
  | 18 => some [0, 1, 5, 6, 7, 8, 9, 10, 11, 73]
  | 19 => some [4]
  | 20 => some [0, 1, 5, 6, 7, 8, 9, 10]
  | 21 => some [0, 1, 5, 6, 7, 8, 9, 10, 93]
  | 22 => some [4]
  | 23 => some [0, 1, 5, 6, 7, 8, 9, 10]
  | 24 => some [0, 1, 5, 6, 7, 8, 9, 10]
  | 25 => some [0, 1, 5, 6, 7, 8, 9, 10, 107]
  | 26 => some [8, 12]
  | 27 => some [8, 12, 114]
  | 28 => some [4]
  | 29 => some [4]
  | 30 => some [0, 1, 5, 6, 7, 8, 9, 10, 132]
  | 31 => some [8, 13]
  | 32 => some [8, 13, 139]
  | 33 => some [4]
  | 34 => some [4]
  | 35 => some [4]
  | _ => none
def loop175 : Nat → Option (List Nat)
  | 15 => some [0, 1, 5, 6, 7, 8, 9, 10]
  | _ => none
def reg176 : Nat → Option (List Nat)
  | 0 => some [0, 1]
  | 1 => some [4]
  | _ => none
def reg177 : Nat → Option (List Nat)
  | 0 => some [0, 1]
  | 1 => some [4]
  | _ => none
def reg178 : Nat → Option (List Nat)
  | 0 => some [0]
  | 1 => some [0, 10]
  | 2 => some [2, 3]
  | 3 => some [2, 3]
  | _ => none
def reg179 : Nat → Option (List Nat)
  | 0 => some [0, 1]
  | 1 => some [4]
  | _ => none
def reg180 : Nat → Option (List Nat)
  | 0 => some [1, 2]
  | 1 => some [1, 2, 3]
  | 2 => some [1, 2, 3, 4]
  | 3 => some [1, 2, 3, 4, 9]
  | 4 => some [1, 2, 3, 4, 9, 10]
  | 5 => some [2]
  | 6 => some [2]
  | 7 => some [1, 2, 3, 4, 9, 16]
  | 8 => some [1, 2]
  | 9 => some [1, 2, 5]
  | 10 => some [2, 5]
  | 11 => some [2]
  | 12 => some [1, 2, 3, 9, 26]
  | 13 => some [2]
  | 14 => some [1, 2, 3, 9, 30]
  | 15 => some [2]
  | 16 => some [1, 2, 3, 34]
  | 17 => some [2]
  | 18 => some [2]
  | _ => none
def reg181 : Nat → Option (List Nat)
  | 0 => some [0]
  | 1 => some [0]
  | 2 => some [0, 3]
  | 3 => some [0, 3, 33]
  | 4 => some [0, 3]
  | 5 => some [0, 3, 37]
  | 6 => some [0, 3]
  | 7 => some [0, 3, 4]
  | 8 => some [4]
  | 9 => some [4, 57]
  | 10 => some [2]
  | 11 => some [5, 6]
  | 12 => some [5, 64]
  | 13 => some [2]
  | 14 => some [2]
  | _ => none
def loop181 : Nat → Option (List Nat)
  | 3 => some [0, 3]
  | _ => none
def reg182 : Nat → Option (List Nat)
  | 0 => some [0]
  | 1 => some [0, 4, 5]
  | 2 => some [0, 4, 5, 12]
  | 3 => some [2, 3]
  | 4 => some [2, 3]
  | _ => none
def reg183 : Nat → Option (List Nat)
  | 0 => some [0, 1]
  | 1 => some [4]
  | _ => none
def reg184 : Nat → Option (List Nat)
  | 0 => some [1, 2]
  | 1 => some [3]
  | _ => none
def reg185 : Nat → Option (List Nat)
  | 0 => some [0, 2]
  | 1 => some [0, 2, 3]
  | 2 => some [0, 2, 3, 5]
  | 3 => some [2]
  | 4 => some [0, 2, 3, 11]
  | 5 => some [2]
  | 6 => some [2]
  | 7 => some [0, 2, 3, 17]
  | 8 => some [0, 2, 3]
  | 9 => some [0, 2, 3, 20]
  | 10 => some [0, 2, 3]
  | 11 => some [0, 2, 3, 23]
  | 12 => some [0, 2, 3]
  | 13 => some [0, 2, 3, 26]
  | 14 => some [2]
  | 15 => some [0, 2, 3, 35]
  | 16 => some [0, 2, 3]
  | 17 => some [0, 2, 3]
  | 18 => some [0, 2, 3, 4]
  | 19 => some [2, 3, 4]
  | 20 => some [2, 3, 4, 51]
  | 21 => some [2]
  | 22 => some [2]
  | _ => none
def reg186 : Nat → Option (List Nat)
  | 0 => some [0]
  | 1 => some [0, 3]
  | 2 => some [0, 3, 4]
  | 3 => some [0, 3, 4, 9]
  | 4 => some [0, 3, 4]
  | 5 => some [0, 3, 4, 5]
  | 6 => some [0, 3, 4, 5, 21]
  | 7 => some [2]
  | 8 => some [0, 3, 4]
  | 9 => some [2]
  | _ => none
def loop186 : Nat → Option (List Nat)
  | 3 => some [0, 3, 4]
  | _ => none
def reg187 : Nat → Option (List Nat)
  | 0 => some [0]
  | 1 => some [0, 20]
  | 2 => some []
  | 3 => some [2]
  | 4 => some [0, 3]
  | 5 => some [3]
  | 6 => some [2]
  | _ => none
def reg188 : Nat → Option (List Nat)
  | 0 => some [0]
  | 1 => some [0, 3]
  | 2 => some [3]
  | 3 => some [2]
  | _ => none
def reg189 : Nat → Option (List Nat)
  | 0 => some [1, 2, 3]
  | 1 => some [1, 2, 3]
  | 2 => some [1, 2, 3, 10]
  | 3 => some []
  | 4 => some [1, 2, 3, 6]
  | 5 => some [1, 2, 3, 20]
  | 6 => some [1, 2, 3]
  | 7 => some [1, 2, 3, 39]
  | 8 => some [1, 2, 3]
  | 9 => some [1, 2, 3]
  | 10 => some [1, 2, 3, 6]
  | 11 => some [1, 2, 3, 6, 55]
  | 12 => some [1, 2, 3, 6]
  | 13 => some []
  | _ => none
def loop189 : Nat → Option (List Nat)
  | 5 => some [1, 2, 3, 6]
  | _ => none
def reg190 : Nat → Option (List Nat)
  | 0 => some [1, 3, 5]
  | 1 => some [1, 3, 5, 7]
  | 2 => some [1, 3, 5, 7, 9]
  | 3 => some [1, 3, 5, 7, 9, 10]
  | 4 => some [5, 7]
  | 5 => some [3, 5, 7, 9, 14]
  | 6 => some [5, 7]
  | 7 => some [5, 7, 19]
  | 8 => some [5, 7]
  | 9 => some [6]
  | _ => none
def reg191 : Nat → Option (List Nat)
  | 0 => some [0, 3]
  | 1 => some [0, 3, 10]
  | 2 => some [4]
  | 3 => some [0, 3, 5]
  | 4 => some [0, 3, 5, 16, 17, 18]
  | 5 => some [0, 3, 5, 16, 17, 18, 19]
  | 6 => some [0, 3, 5, 7, 16, 17, 18]
  | 7 => some [0, 3, 5, 7, 16, 17, 18, 29]
  | 8 => some [4]
  | 9 => some [0, 3, 5, 16, 17, 18]
  | 10 => some [0, 3, 5, 16, 17, 18]
  | 11 => some [4]
  | _ => none
def loop191 : Nat → Option (List Nat)
  | 5 => some [0, 3, 5, 16, 17, 18]
  | _ => none
def reg192 : Nat → Option (List Nat)
  | 0 => some [0, 1, 2, 3, 4, 10]
  | 1 => some [0, 1, 2, 3, 4, 10, 11]
  | 2 => some [0, 1, 2, 3, 4, 10, 11, 12]
  | 3 => some [0, 1, 2, 3, 4, 10, 11, 12, 25]
  | 4 => some []
  | 5 => some [0, 1, 2, 3, 4, 10, 11, 12, 32]
  | 6 => some []
  | 7 => some [0, 1, 2, 3, 4, 10, 11, 12, 39]
  | 8 => some [0, 1, 2, 3, 4, 10, 11, 12]
  | 9 => some [0, 1, 2, 3, 4, 10, 11, 12]
  | 10 => some [0, 1, 2, 3, 4, 10, 11, 12, 13, 14]
  | 11 => some [0, 1, 2, 3, 4, 10, 11, 12, 13, 14, 56]
  | 12 => some [0, 1, 2, 3, 4, 10, 11, 12, 13]
  | 13 => some [0, 1, 2, 3, 4, 10, 11, 12, 13]
  | 14 => some [0, 1, 2, 3, 4, 10, 11, 12, 13, 14]
  | 15 => some [0, 1, 2, 3, 4, 10, 11, 12, 13, 75]
  | 16 => some [0, 1, 2, 3, 4, 10, 11, 12, 13, 80]
  | 17 => some [0, 1, 2, 3, 4, 10, 11, 12, 13, 97]
  | 18 => some [0, 2, 3, 4, 10, 11, 15]
  | 19 => some [0, 1, 2, 3, 4, 10, 11]
  | 20 => some [0, 1, 2, 3, 4, 12, 16, 17]
  | 21 => some [0, 1, 2, 3, 4, 11, 12, 16]
  | 22 => some [0, 1, 2, 3, 4, 11, 12, 16, 18, 19]
  | 23 => some [0, 1, 2, 3, 4, 11, 16, 18, 19, 20]
  | 24 => some [0, 1, 2, 3, 4, 11, 16, 18, 19, 20, 125]
  | 25 => some [0, 1, 2, 3, 4, 10, 11, 16]
  | 26 => some [0, 2, 3, 4, 10, 11, 16]
  | 27 => some [0, 1, 2, 3, 4, 10, 11]
  | 28 => some [0, 1, 2, 3, 4, 10, 11, 16]
  | 29 => some [0, 1, 3, 4, 10, 11, 16]
  | 30 => some [0, 1, 2, 3, 4, 10, 11]
  | _ => none
def loop192 : Nat → Option (List Nat)
  | 2 => some [0, 1, 2, 3, 4, 10, 11]
  | _ => none
def reg193 : Nat → Option (List Nat)
  | 0 => some [0]
  | 1 => some [2]
  | 2 => some [2]
  | _ => none
def reg194 : Nat → Option (List Nat)
  | 0 => some [0]
  | 1 => some [0, 3]
  | 2 => some [3, 6, 7, 8]
  | 3 => some [3, 6, 7, 8, 9]
  | 4 => some [3, 5, 6, 7, 8]
  | 5 => some [3, 5, 6, 7, 8, 17]
  | 6 => some [2]
  | 7 => some [3, 6, 7, 8]
  | 8 => some [3, 6, 7, 8, 22]
  | 9 => some [2]
  | 10 => some [3, 6, 7, 8]
  | 11 => some [2]
  | _ => none
def loop194 : Nat → Option (List Nat)
  | 3 => some [3, 6, 7, 8]
  | _ => none
def reg195 : Nat → Option (List Nat)
  | 0 => some [0]
  | 1 => some [2]
  | _ => none
def reg196 : Nat → Option (List Nat)
  | 0 => some [0, 2]
  | 1 => some [0, 2, 4]
  | 2 => some [0]
  | 3 => some [0, 2]
  | 4 => some [0, 2, 8]
  | 5 => some [0, 2]
  | 6 => some [0, 2]
  | 7 => some [0, 2, 14]
  | 8 => some [0, 2]
  | 9 => some [0, 2]
  | 10 => some [2]
  | _ => none
def reg197 : Nat → Option (List Nat)
  | 0 => some [0]
  | 1 => some [3]
  | 2 => some [2]
  | 3 => some [2]
  | _ => none
def reg198 : Nat → Option (List Nat)
  | 0 => some [0]
  | 1 => some [2]
  | _ => none
def reg199 : Nat → Option (List Nat)
  | 0 => some [0]
  | 1 => some [2]
  | 2 => some [2]
  | _ => none
def reg200 : Nat → Option (List Nat)
  | 0 => some [0, 1]
  | 1 => some [4]
  | _ => none
def reg202 : Nat → Option (List Nat)
  | 0 => some [0]
  | 1 => some [2]
  | _ => none
def reg203 : Nat → Option (List Nat)
  | 0 => some [0, 1]
  | 1 => some [0, 1, 5, 6]
  | 2 => some [0, 1, 5, 6, 7]
  | 3 => some [0, 1, 5, 6, 7, 8]
  | 4 => some [0, 1, 5, 6, 7, 8, 9]
  | 5 => some [0, 1, 5, 6, 7, 8, 9, 20]
  | 6 => some [0, 1, 5, 6, 7, 8, 9]
  | 7 => some [0, 1, 5, 6, 7, 8, 9]
  | 8 => some [0, 1, 5, 6, 7, 8, 39]
  | 9 => some [4]
  | 10 => some [0, 1, 5, 6, 7, 8, 10]
  | 11 => some [0, 1, 5, 6, 7, 8, 10, 44]
  | 12 => some [0, 1, 5, 6, 7, 8, 10]
  | 13 => some [0, 1, 5, 6, 7, 8, 10]
  | 14 => some [0, 1, 5, 6, 7, 8, 10]
  | 15 => some [0, 1, 5, 6, 7, 8, 10]
  | 16 => some [0, 1, 5, 6, 7, 8, 10, 77]
  | 17 => some [4]
  | 18 => some [4]
  | _ => none
def loop203 : Nat → Option (List Nat)
  | 5 => some [0, 1, 5, 6, 7, 8, 9]
  | 11 => some [0, 1, 5, 6, 7, 8, 10]
  | _ => none
def reg204 : Nat → Option (List Nat)
  | 0 => some [0]
  | 1 => some [0, 4]
  | 2 => some [0, 4, 16]
  | 3 => some [2, 3]
  | 4 => some [0, 4, 5]
  | 5 => some [0, 4, 5, 6]
  | 6 => some [0, 4, 5, 6, 23]
  | 7 => some [0, 7]
  | 8 => some [2, 3]
  | 9 => some [0, 4, 5, 6, 8]
  | 10 => some [0, 4, 5, 8, 9]
  | 11 => some [0, 5, 8, 9, 45]
  | 12 => some [2, 3]
  | 13 => some [0, 5, 8, 9, 10]
  | 14 => some [0, 5, 8, 10, 57]
  | 15 => some [2, 3]
  | 16 => some [0, 5, 8, 10, 59]
  | 17 => some [2, 3]
  | 18 => some [0, 5, 8, 10, 11]
  | 19 => some [0, 5, 8, 10, 11, 75]
  | 20 => some [2, 3]
  | 21 => some [0, 5, 10, 11, 77]
  | 22 => some [2, 3]
  | 23 => some [5, 10, 11, 12]
  | 24 => some [5, 10, 11, 12, 98]
  | 25 => some [2, 3]
  | 26 => some [2, 3]
  | _ => none
def reg206 : Nat → Option (List Nat)
  | 0 => some [0, 1, 3]
  | 1 => some [0, 1, 3]
  | 2 => some [0, 1, 3]
  | 3 => some [0, 1, 3, 4]
  | 4 => some [0, 3, 4]
  | 5 => some [3]
  | _ => none
def reg207 : Nat → Option (List Nat)
  | 0 => some [7]
  | 1 => some []
  | _ => none
def reg208 : Nat → Option (List Nat)
  | 0 => some [0]
  | 1 => some [0, 4]
  | 2 => some [0, 30]
  | 3 => some [0, 5]
  | 4 => some [0, 5, 39]
  | 5 => some [0, 5]
  | 6 => some [0, 5, 44]
  | 7 => some [2, 3]
  | 8 => some [0, 5, 6]
  | 9 => some [5, 6, 47, 48, 49]
  | 10 => some [5, 6, 47, 48, 49, 50]
  | 11 => some [5, 6, 8, 47, 48, 49]
  | 12 => some [5, 6, 8, 47, 48, 49]
  | 13 => some [5, 6, 8, 47, 48, 49, 56]
  | 14 => some [2, 3]
  | 15 => some [5, 6, 47, 48, 49]
  | 16 => some [5, 6, 47, 48, 49]
  | 17 => some [6, 66]
  | 18 => some [6]
  | 19 => some [2, 3]
  | 20 => some [9, 10]
  | 21 => some [2, 3]
  | _ => none
def loop208 : Nat → Option (List Nat)
  | 10 => some [5, 6, 47, 48, 49]
  | _ => none
def reg209 : Nat → Option (List Nat)
  | 0 => some [0, 1, 2, 3, 4]
  | 1 => some [0, 1, 2, 3, 4, 11]
  | 2 => some [0, 1, 2, 3, 4, 11, 12]
  | 3 => some [10]
  | 4 => some [0, 1, 2, 3, 4, 11, 19]
  | 5 => some [10]
  | 6 => some [0, 1, 2, 3, 4, 11, 26]
  | 7 => some [10]
  | 8 => some [0, 1, 3, 4, 34]
  | 9 => some [10]
  | 10 => some [10]
  | _ => none
def reg210 : Nat → Option (List Nat)
  | 0 => some [0, 1]
  | 1 => some [0, 1, 7, 8]
  | 2 => some [0, 1, 7, 8, 9]
  | 3 => some [0, 1, 5, 7, 8]
  | 4 => some [0, 1, 5, 7, 8, 16]
  | 5 => some [4]
  | 6 => some [0, 1, 7, 8]
  | 7 => some [4]
  | _ => none
def loop210 : Nat → Option (List Nat)
  | 2 => some [0, 1, 7, 8]
  | _ => none
def reg211 : Nat → Option (List Nat)
  | 0 => some [0, 1, 2, 3, 8]
  | 1 => some [0, 1, 2, 3, 8, 14]
  | 2 => some [0, 1, 2, 3, 8]
  | 3 => some [0, 1, 2, 3, 8, 9]
  | 4 => some [0, 1, 2, 3, 8, 9, 34]
  | 5 => some [0, 1, 2, 3, 8, 9]
  | 6 => some [0, 1, 2, 3, 8, 9]
  | _ => none
def loop211 : Nat → Option (List Nat)
  | 1 => some [0, 1, 2, 3, 8]
  | 4 => some [0, 1, 2, 3, 8, 9]
  | _ => none
def reg212 : Nat → Option (List Nat)
  | 0 => some [0, 1, 2, 3, 8]
  | 1 => some [0, 1, 2, 3, 8, 9]
  | 2 => some [0, 3, 8, 9, 10]
  | 3 => some [0, 3, 8, 9, 10, 11]
  | 4 => some [0, 3, 8, 9, 10, 11, 21]
  | 5 => some [0, 3, 8, 9, 10, 11]
  | 6 => some [0, 3, 8, 9, 10, 11]
  | 7 => some [0, 3, 8, 9, 12]
  | 8 => some [0, 3, 8, 9, 12, 33]
  | 9 => some [0, 3, 8, 9, 12]
  | 10 => some [0, 3, 8, 9, 12]
  | 11 => some [0, 3, 8, 9, 12]
  | _ => none
def loop212 : Nat → Option (List Nat)
  | 4 => some [0, 3, 8, 9, 10, 11]
  | 8 => some [0, 3, 8, 9, 12]
  | _ => none
def reg213 : Nat → Option (List Nat)
  | 0 => some [0, 1, 8]
  | 1 => some [0, 1, 8, 17]
  | 2 => some [0, 1, 8, 9]
  | 3 => some [0, 1, 8, 9, 10]
  | 4 => some [0, 1, 8, 9, 10, 11]
  | 5 => some [0, 1, 8, 9, 10, 11, 35]
  | 6 => some [0, 1, 8, 9, 10, 11]
  | 7 => some [0, 1, 8, 9, 10, 11, 12]
  | 8 => some [0, 1, 8, 9, 10, 11, 12, 45]
  | 9 => some [0, 1, 8, 9, 10, 11, 12]
  | 10 => some [0, 1, 8, 9, 10, 11]
  | _ => none
def loop213 : Nat → Option (List Nat)
  | 5 => some [0, 1, 8, 9, 10, 11]
  | _ => none
def reg214 : Nat → Option (List Nat)
  | 0 => some [0, 1, 2, 3]
  | 1 => some [0, 1, 3, 10]
  | 2 => some [0, 1, 3, 10, 11]
  | 3 => some [0, 1, 3, 10, 11, 12]
  | 4 => some [0, 1, 3, 10, 11, 12, 13]
  | 5 => some [0, 3, 10, 11, 12, 13, 14]
  | 6 => some [0, 3, 10, 11, 12, 13, 14, 34]
  | 7 => some [0, 3, 11, 12, 13, 14, 36]
  | 8 => some [0, 3, 11, 12, 13, 14]
  | 9 => some [0, 3, 11, 12, 13, 14]
  | 10 => some [0, 3, 11, 12, 13, 14]
  | 11 => some [11, 13]
  | 12 => some [13, 55]
  | 13 => some [8, 9]
  | 14 => some [13, 55, 57]
  | 15 => some [8, 9]
  | 16 => some [13, 60]
  | 17 => some [8, 9]
  | _ => none
def reg215 : Nat → Option (List Nat)
  | 0 => some [0, 2, 8]
  | 1 => some [0, 8, 9]
  | 2 => some [0, 8, 9, 15]
  | 3 => some [0, 8, 9]
  | 4 => some [0, 8, 9]
  | 5 => some [0, 8, 9]
  | _ => none
def loop215 : Nat → Option (List Nat)
  | 2 => some [0, 8, 9]
  | _ => none
def reg216 : Nat → Option (List Nat)
  | 0 => some [0, 1, 2, 3]
  | 1 => some [0, 1, 2, 3, 9]
  | 2 => some [0, 1, 2, 3, 9, 10]
  | 3 => some [0, 1, 2, 3, 9, 10, 16]
  | 4 => some [0, 1, 2, 3, 9, 10]
  | 5 => some [0, 1, 2, 3, 9, 10, 36]
  | 6 => some [0, 1, 2, 3, 9, 10]
  | 7 => some [0, 1, 2, 3, 9, 10, 41]
  | 8 => some [8]
  | 9 => some [0, 1, 2, 3, 9, 10, 45]
  | 10 => some [8]
  | 11 => some [0, 1, 2, 3, 9, 10]
  | 12 => some [0, 1, 2, 3, 9, 10, 65]
  | 13 => some [0, 1, 2, 3, 9, 10, 11]
  | 14 => some [0, 1, 2, 3, 9, 10, 11, 69]
  | 15 => some [0, 1, 2, 3, 9, 10, 11]
  | 16 => some [0, 1, 2, 3, 9, 10, 11, 84]
  | 17 => some [0, 1, 2, 3, 9, 10, 11]
  | 18 => some [0, 1, 2, 3, 9, 10, 104]
  | 19 => some [0, 1, 2, 3, 9, 10, 12]
  | 20 => some [0, 1, 2, 3, 9, 10, 12, 109]
  | 21 => some [0, 1, 2, 3, 9, 10, 12]
  | 22 => some [0, 1, 2, 3, 9, 10, 12, 124]
  | 23 => some [0, 1, 2, 3, 9, 10, 12]
  | 24 => some [8]
  | _ => none
def loop216 : Nat → Option (List Nat)
  | 3 => some [0, 1, 2, 3, 9, 10]
  | 5 => some [0, 1, 2, 3, 9, 10]
  | 14 => some [0, 1, 2, 3, 9, 10, 11]
  | 20 => some [0, 1, 2, 3, 9, 10, 12]
  | _ => none
def reg217 : Nat → Option (List Nat)
  | 0 => some [0, 1, 2, 3, 4]
  | 1 => some [0, 1, 2, 4]
  | 2 => some [0, 1, 4, 11, 12]
  | 3 => some [0, 1, 4, 11, 12, 47]
  | 4 => some [0, 1, 4, 11, 12]
  | 5 => some [0, 1, 4, 11, 12, 65]
  | 6 => some [0, 1, 4, 11, 12]
  | 7 => some [0, 1, 4, 11, 12, 70]
  | 8 => some [0, 1, 4, 11, 12]
  | 9 => some [0, 1, 4, 11, 12]
  | 10 => some [0, 1, 4, 11, 12]
  | 11 => some [10]
  | _ => none
def loop217 : Nat → Option (List Nat)
  | 0 => some [0, 1, 4, 11, 12]
  | 3 => some [0, 1, 4, 11, 12]
  | 5 => some [0, 1, 4, 11, 12]
  | _ => none
def reg218 : Nat → Option (List Nat)
  | 0 => some [0, 1, 2, 3, 4]
  | 1 => some [0, 1, 2, 4]
  | 2 => some [0, 1, 4, 12, 13]
  | 3 => some [0, 1, 4, 12, 13, 47]
  | 4 => some [0, 1, 4, 12, 13]
  | 5 => some [0, 1, 4, 12, 13, 66]
  | 6 => some [0, 1, 4, 12, 13]
  | 7 => some [0, 1, 4, 12, 13, 71]
  | 8 => some [13]
  | 9 => some [10, 11]
  | 10 => some [0, 1, 4, 12, 13]
  | 11 => some [0, 1, 4, 12, 13]
  | 12 => some [0, 1, 4, 12, 13]
  | 13 => some [0, 1, 4, 12, 13, 120]
  | 14 => some [0, 1, 4, 12, 13]
  | 15 => some [0, 1, 4, 12, 13, 139]
  | 16 => some [0, 1, 4, 12, 13]
  | 17 => some [0, 1, 4, 12, 13, 144]
  | 18 => some [0, 1, 4, 12, 13]
  | 19 => some [0, 1, 4, 12, 13]
  | 20 => some [0, 1, 4, 12, 13]
  | 21 => some [13]
  | 22 => some [10, 11]
  | _ => none
def loop218 : Nat → Option (List Nat)
  | 0 => some [0, 1, 4, 12, 13]
  | 3 => some [0, 1, 4, 12, 13]
  | 5 => some [0, 1, 4, 12, 13]
  | 13 => some [0, 1, 4, 12, 13]
  | 15 => some [0, 1, 4, 12, 13]
  | _ => none
def reg219 : Nat → Option (List Nat)
  | 0 => some [0, 2]
  | 1 => some [0, 2, 4]
  | 2 => some [0]
  | 3 => some [0, 2]
  | 4 => some [0, 2, 8]
  | 5 => some [0, 2]
  | 6 => some [0, 2]
  | 7 => some [2]
  | _ => none
def reg220 : Nat → Option (List Nat)
  | 0 => some [0]
  | 1 => some [0, 4]
  | 2 => some [2]
  | 3 => some [2]
  | _ => none
def reg221 : Nat → Option (List Nat)
  | 0 => some [0]
  | 1 => some [0, 4]
  | 2 => some [2]
  | 3 => some [2]
  | _ => none
def reg223 : Nat → Option (List Nat)
  | 0 => some [0]
  | 1 => some [0, 4]
  | 2 => some [0, 4, 5]
  | 3 => some [0, 4, 5, 12]
  | 4 => some [0, 4, 5]
  | 5 => some [0, 4, 5]
  | 6 => some [0, 4, 6, 7]
  | 7 => some [4, 6, 7, 8]
  | 8 => some [4, 6, 7, 8, 25]
  | 9 => some [4, 6, 7, 8]
  | 10 => some [4, 6, 7, 8, 30]
  | 11 => some [4, 6, 7, 8]
  | 12 => some [4, 6, 7, 8]
  | 13 => some [2, 3]
  | _ => none
def loop223 : Nat → Option (List Nat)
  | 3 => some [0, 4, 5]
  | 8 => some [4, 6, 7, 8]
  | _ => none
def reg224 : Nat → Option (List Nat)
  | 0 => some [0, 1]
  | 1 => some [4]
  | _ => none
def reg225 : Nat → Option (List Nat)
  | 0 => some [0]
  | 1 => some [0, 3]
  | 2 => some [2]
  | 3 => some [10]
  | 4 => some [2]
  | 5 => some [2]
  | _ => none
def reg226 : Nat → Option (List Nat)
  | 0 => some [0, 1, 2]
  | 1 => some [0, 1, 2, 13]
  | 2 => some [6, 7]
  | 3 => some [0, 1, 2, 8]
  | 4 => some [0, 1, 2, 8, 16]
  | 5 => some [0, 1, 2, 8, 16, 17]
  | 6 => some [0, 1, 2, 8]
  | 7 => some [0, 1, 2, 8, 21]
  | 8 => some [0, 1, 2]
  | 9 => some [0, 1, 2, 8]
  | 10 => some [0, 1, 2, 8]
  | 11 => some [2, 7, 8, 9]
  | 12 => some [2, 7, 8, 9, 38]
  | 13 => some [6, 7]
  | 14 => some [2, 8, 9, 41]
  | 15 => some [2, 8, 9]
  | 16 => some [8, 9, 10]
  | 17 => some [8, 9, 10, 52]
  | 18 => some [6, 7]
  | 19 => some [8, 9, 10, 62]
  | 20 => some [6, 7]
  | 21 => some [8, 11]
  | 22 => some [11, 69]
  | 23 => some [11]
  | 24 => some [6, 7]
  | _ => none
def reg227 : Nat → Option (List Nat)
  | 0 => some [0, 1]
  | 1 => some [4]
  | _ => none
def reg228 : Nat → Option (List Nat)
  | 0 => some [0, 1]
  | 1 => some [4]
  | _ => none
def reg229 : Nat → Option (List Nat)
  | 0 => some [0, 1, 2]
  | 1 => some [6]
  | _ => none
def reg230 : Nat → Option (List Nat)
  | 0 => some [0, 1, 2]
  | 1 => some [6]
  | _ => none
def reg231 : Nat → Option (List Nat)
  | 0 => some [0, 2, 3, 4, 10]
  | 1 => some [0, 2, 3, 4, 10, 11]
  | 2 => some [0, 2, 3, 4, 10, 11, 18]
  | 3 => some [0, 2, 3, 4, 10, 11, 40]
  | 4 => some [0, 2, 3, 4, 10, 11]
  | 5 => some [0, 2, 3, 4, 10, 11, 58]
  | 6 => some [0, 2, 3, 4, 11]
  | 7 => some [0, 2, 3, 4, 10]
  | _ => none
def loop231 : Nat → Option (List Nat)
  | 1 => some [0, 2, 3, 4, 10]
  | _ => none
def reg232 : Nat → Option (List Nat)
  | 0 => some [0]
  | 1 => some [2]
  | _ => none
def reg233 : Nat → Option (List Nat)
  | 0 => some [0]
  | 1 => some [0]
  | 2 => some [0]
  | 3 => some [0]
  | 4 => some [2]
  | _ => none
def reg234 : Nat → Option (List Nat)
  | 0 => some [0, 1, 2, 3]
  | 1 => some [8]
  | _ => none
def reg235 : Nat → Option (List Nat)
  | 0 => some [0, 1, 2, 3, 4, 5]
  | 1 => some [0, 1, 2, 3, 4, 5]
  | 2 => some [0, 1, 2, 4, 5]
  | 3 => some [2]
  | 4 => some [12]
  | _ => none
def reg236 : Nat → Option (List Nat)
  | 0 => some [0, 1, 2]
  | 1 => some [0, 1, 2, 19]
  | 2 => some [6, 7]
  | 3 => some [0, 1, 2, 8]
  | 4 => some [0, 1, 2, 8, 9]
  | 5 => some [6, 7]
  | 6 => some [0, 1, 2, 8, 9, 25]
  | 7 => some [0, 2, 8, 9, 32]
  | 8 => some [0, 1, 2, 8, 9]
  | 9 => some [0, 1, 2, 8, 9, 37]
  | 10 => some [0, 1, 2, 8, 9]
  | 11 => some [0, 1, 2, 8, 9]
  | 12 => some [0, 2, 8, 9, 40]
  | 13 => some [0, 1, 2, 8, 9]
  | 14 => some [0, 1, 2, 8, 9]
  | 15 => some [0, 2, 8, 9, 52]
  | 16 => some [0, 1, 2, 8, 9]
  | 17 => some [0, 1, 2, 8, 9]
  | 18 => some [0, 2, 8, 9, 64]
  | 19 => some [0, 1, 2, 8, 9]
  | 20 => some [0, 1, 2, 8, 9]
  | 21 => some [0, 1, 2, 8, 9, 77]
  | 22 => some [0, 1, 2, 8, 9]
  | 23 => some [0, 1, 2, 8, 9, 83]
  | 24 => some [6, 7]
  | 25 => some [0, 1, 2, 8, 9]
  | 26 => some [0, 1, 2, 8, 9, 85]
  | 27 => some [0, 1, 2, 8, 9, 10]
  | 28 => some [0, 1, 2, 8, 9, 85, 90]
  | 29 => some [0, 1, 2, 8, 9, 10]
  | 30 => some [0, 1, 2, 8, 9, 92]
  | 31 => some [0, 1, 2, 8, 9, 10]
  | 32 => some [0, 1, 8, 9, 10, 11]
  | 33 => some [0, 1, 8, 9, 10, 11, 12]
  | 34 => some [0, 1, 8, 9, 10, 11, 12, 13]
  | 35 => some [1, 8, 9, 10, 11, 12, 13, 99, 100, 101]
  | 36 => some [1, 8, 9, 10, 11, 12, 13, 99, 100, 101, 102]
  | 37 => some [1, 8, 9, 10, 11, 12, 13, 15, 99, 100, 101]
  | 38 => some [1, 8, 9, 10, 11, 12, 13, 15, 99, 100, 101]
  | 39 => some [6, 7]
  | 40 => some [1, 8, 9, 10, 11, 12, 13, 15, 99, 100, 101, 106]
  | 41 => some [1, 8, 9, 10, 11, 12, 13, 99, 100, 101]
  | 42 => some [1, 8, 9, 10, 11, 12, 13, 15, 99, 100, 101, 112]
  | 43 => some [1, 8, 9, 10, 11, 12, 13, 16, 99, 100, 101]
  | 44 => some [1, 8, 9, 10, 11, 12, 13, 15, 99, 100, 101, 121]
  | 45 => some [1, 8, 9, 10, 11, 12, 13, 16, 99, 100, 101]
  | 46 => some [1, 8, 9, 10, 11, 12, 13, 16, 99, 100, 101, 137]
  | 47 => some [6, 7]
  | 48 => some [1, 8, 9, 10, 11, 12, 13, 16, 99, 100, 101, 141]
  | 49 => some [6, 7]
  | 50 => some [1, 8, 9, 10, 11, 12, 13, 16, 99, 100, 101]
  | 51 => some [1, 8, 9, 10, 11, 12, 13, 17, 99, 100, 101]
  | 52 => some [1, 8, 9, 10, 11, 12, 17, 99, 100, 101, 159]
  | 53 => some [6, 7]
  | 54 => some [1, 8, 9, 10, 11, 12, 13, 99, 100, 101]
  | 55 => some [1, 8, 9, 10, 11, 12, 13, 99, 100, 101]
  | 56 => some [13, 169]
  | 57 => some [6, 7]
  | 58 => some [6, 7]
  | _ => none
def loop236 : Nat → Option (List Nat)
  | 36 => some [1, 8, 9, 10, 11, 12, 13, 99, 100, 101]
  | _ => none
def reg237 : Nat → Option (List Nat)
  | 0 => some [0]
  | 1 => some [0, 6]
  | 2 => some [2]
  | 3 => some [0, 3]
  | 4 => some [3]
  | 5 => some [2]
  | _ => none
def reg238 : Nat → Option (List Nat)
  | 0 => some [0]
  | 1 => some [2]
  | _ => none
def reg239 : Nat → Option (List Nat)
  | 0 => some [0, 1, 2, 3, 4]
  | 1 => some [1, 2, 3, 22]
  | 2 => some [1, 2]
  | 3 => some [10, 11]
  | 4 => some [10, 11]
  | _ => none
def reg240 : Nat → Option (List Nat)
  | 0 => some [0]
  | 1 => some [2]
  | _ => none
def reg241 : Nat → Option (List Nat)
  | 0 => some [0]
  | 1 => some [0, 3]
  | 2 => some [0, 3, 4]
  | 3 => some [0, 3, 4, 18]
  | 4 => some [0, 3, 4]
  | 5 => some [0, 3, 4, 5]
  | 6 => some [0, 3, 4, 5, 46]
  | 7 => some [0, 4]
  | 8 => some [0, 3, 4]
  | 9 => some [0, 3, 4, 5]
  | 10 => some [0, 3, 4, 5, 54]
  | 11 => some [0, 3, 4, 5]
  | 12 => some [0, 3, 4, 5, 83]
  | 13 => some [0, 3, 4, 5]
  | 14 => some [0, 3, 4, 5, 87]
  | 15 => some [0, 4, 5, 89]
  | 16 => some [2]
  | 17 => some [0, 3, 4, 5]
  | 18 => some [0, 4, 5, 91]
  | 19 => some [2]
  | 20 => some [0, 3, 4, 5]
  | 21 => some [2]
  | _ => none
def loop241 : Nat → Option (List Nat)
  | 10 => some [0, 3, 4, 5]
  | _ => none
def reg272 : Nat → Option (List Nat)
  | 0 => some []
  | 1 => some []
  | 2 => some []
  | 3 => some []
  | 4 => some []
  | 5 => some []
  | 6 => some []
  | _ => none
def draw5 : Nat → DrawAnn
  | 13 => ⟨[[], [0], [], [2], [0, 1, 2, 3], [0, 1, 2, 3, 4], [0, 1, 2, 3, 4, 5], [0, 1, 2, 3, 4, 5, 6], [0, 1, 2, 3, 4, 5, 6, 7], [0, 1, 2, 3, 4, 5, 6], [0, 1, 2, 3, 4, 5, 6, 9], [0, 1, 2, 3, 4, 5, 6, 7, 8, 9, 10], [0, 1, 2, 3, 4, 5, 6, 7, 8, 9, 10, 11], [0, 1, 2, 3, 4, 5, 6, 7, 8, 9, 10, 11, 12], [0, 1, 2, 3, 4, 5, 6, 7, 8, 9, 10, 11, 12, 13], [0, 1, 2, 3, 4, 5, 6, 7, 8, 9, 10, 11, 12, 13, 14], [0, 1, 2, 3, 4, 5, 6, 7, 8, 9, 10, 11, 12, 13, 14], [0, 1, 2, 3, 4, 5, 6, 7, 8, 9, 10, 11, 12, 13, 14, 15, 16], [0, 1, 2, 3, 4, 5, 6, 7, 8, 9, 10, 11, 12, 13, 14], [0, 1, 2, 3, 4, 5, 6, 7, 8, 9, 10, 11, 12, 13, 14], [0, 1, 2, 3, 4, 5, 6, 7, 8, 9, 10, 11, 12, 13, 14, 15, 16, 17, 18, 19], [0, 1, 2, 3, 4, 5, 6, 7, 8, 9, 10, 11, 12, 13, 14, 15, 16, 17, 18, 19, 20], [0, 1, 2, 3, 4, 5, 6, 7, 8, 9, 10, 11, 12, 13, 14, 15, 16, 17, 18, 19, 20, 21], [0, 1, 2, 3, 4, 5, 6, 7, 8, 9, 10, 11, 12, 13, 14, 15, 16, 17, 18, 19, 20, 21, 22], [0, 1, 2, 3, 4, 5, 6, 7, 8, 9, 10, 11, 12, 13, 14, 15, 16, 17, 18, 19, 20, 21, 22, 23], [0, 1, 2, 3, 4, 5, 6, 7, 8, 9, 10, 11, 12, 13, 14, 15, 16, 17, 18, 19, 20, 21, 22, 23], [0, 1, 2, 3, 4, 5, 6, 7, 8, 9, 10, 11, 12, 13, 14, 15, 16, 17, 18, 19, 20, 21, 22, 23, 25], [0, 1, 2, 3, 4, 5, 6, 7, 8, 9, 10, 11, 12, 13, 14, 15, 16, 17, 18, 19, 20, 21, 22, 23, 24, 25, 26], [0, 1, 2, 3, 4, 5, 6, 7, 8, 9, 10, 11, 12, 13, 14, 15, 16, 17, 18, 19, 20, 21, 22, 23, 24, 25, 26, 27], [0, 1, 2, 3, 4, 5, 6, 7, 8, 9, 10, 11, 12, 13, 14, 15, 16, 17, 18, 19, 20, 21, 22, 23, 24, 25, 26, 27, 28], [0, 1, 2, 3, 4, 5, 6, 7, 8, 9, 10, 11, 12, 13, 14, 15, 16, 17, 18, 19, 20, 21, 22, 23, 24, 25, 26, 27, 28, 29], [0, 1, 2, 3, 4, 5, 6, 7, 8, 9, 10, 11, 12, 13, 14, 15, 16, 17, 18, 19, 20, 21, 22, 23, 24, 25, 26, 27, 28, 29, 30], [0, 1, 2, 3, 4, 5, 6, 7, 8, 9, 10, 11, 12, 13, 14, 15, 16, 17, 18, 19, 20, 21, 22, 23, 24, 25, 26, 27, 28, 29, 30, 31]], [(0, [1], false), (2, [1, 4], false), (7, [8], false), (9, [8, 11], false), (15, [17], false), (16, [17], false), (18, [17, 20], false), (19, [17, 20], false), (24, [26, 27], false), (25, [26], false)], []⟩
  | _ => ⟨[], [], []⟩
def dok5 : Nat → Bool
  | 13 => true
  | _ => false
def draw7 : Nat → DrawAnn
  | 10 => ⟨[[], [0], [0, 1], [0, 1, 2], [], [4], [4, 5], [], [7], [7, 8], [0, 1, 2, 3, 4, 5, 6, 7, 8, 9], [0, 1, 2, 3, 4, 5, 6, 7, 8, 9, 10], [0, 1, 2, 3, 4, 5, 6, 7, 8, 9, 10, 11]], [(1, [3], false), (5, [3, 10], false), (8, [3, 10], false)], []⟩
  | _ => ⟨[], [], []⟩
def dok7 : Nat → Bool
  | 10 => true
  | _ => false
def draw8 : Nat → DrawAnn
  | 15 => ⟨[[], [], [1], [1, 2], [1, 2, 3], [0, 1, 2, 3, 4], [0, 1, 2, 3, 4, 5], [0, 1, 2, 3, 4, 5, 6], [0, 1, 2, 3, 4, 5, 6], [0, 1, 2, 3, 4, 5, 6, 7]], [(0, [4, 5], false), (2, [4], false)], []⟩
  | _ => ⟨[], [], []⟩
def dok8 : Nat → Bool
  | 15 => true
  | _ => false
def draw11 : Nat → DrawAnn
  | 9 => ⟨[[], [0], [], [], [0, 1, 2, 3], [], [5], [], [], [7, 8], [7, 8, 9], [5, 6, 7, 8, 9, 10], [5, 6, 7, 8, 9, 10, 11], [0, 1, 2, 3, 4, 5, 6, 7, 8, 9, 10, 11, 12], [0, 1, 2, 3, 4, 5, 6, 7, 8, 9, 10, 11, 12, 13]], [(1, [4], false), (2, [4], false), (6, [4, 13], false), (10, [4, 13], false), (12, [4, 13], false)], []⟩
  | _ => ⟨[], [], []⟩
def dok11 : Nat → Bool
  | 9 => true
  | _ => false
def draw12 : Nat → DrawAnn
  | 10 => ⟨[[], [0], [], [2], [2, 3], [2, 3, 4], [0, 1, 2, 3, 4, 5], [0, 1, 2, 3, 4, 5, 6]], [(1, [6], false), (5, [6], false)], []⟩
  | _ => ⟨[], [], []⟩
def dok12 : Nat → Bool
  | 10 => true
  | _ => false
def draw13 : Nat → DrawAnn
  | 6 => ⟨[[], [0], [], [2], [], [2, 3, 4], [2, 3, 4, 5], [], [0, 1, 2, 3, 4, 5, 6, 7], [], [9], [], [9, 10, 11], [9, 10, 11, 12], [0, 1, 2, 3, 4, 5, 6, 7, 8, 9, 10, 11, 12, 13], [0, 1, 2, 3, 4, 5, 6, 7, 8, 9, 10, 11, 12, 13, 14]], [(1, [8], false), (3, [8], false), (6, [8], false), (10, [8, 14], false), (13, [8, 14], false)], []⟩
  | _ => ⟨[], [], []⟩
def dok13 : Nat → Bool
  | 6 => true
  | _ => false
def draw15 : Nat → DrawAnn
  | 16 => ⟨[[], [0], [], [2], [], [4], [], [4, 5, 6], [4, 5, 6, 7], [], [2, 3, 4, 5, 6, 7, 8, 9], [2, 3, 4, 5, 6, 7, 8, 9, 10], [0, 1, 2, 3, 4, 5, 6, 7, 8, 9, 10, 11], [0, 1, 2, 3, 4, 5, 6, 7, 8, 9, 10, 11, 12], [0, 1, 2, 3, 4, 5, 6, 7, 8, 9, 10, 11, 12, 13]], [(1, [10, 12], false), (3, [10], false), (5, [10], false), (8, [10], false)], []⟩
  | _ => ⟨[], [], []⟩
def dok15 : Nat → Bool
  | 16 => true
  | _ => false
def draw16 : Nat → DrawAnn
  | 6 => ⟨[[], [0], [], [0, 1, 2], [0, 1, 2, 3], [], [5], [], [5, 6, 7], [5, 6, 7, 8], [0, 1, 2, 3, 4, 5, 6, 7, 8, 9], [0, 1, 2, 3, 4, 5, 6, 7, 8, 9, 10]], [(1, [10], false), (4, [10], false), (6, [10], false), (9, [10], false)], []⟩
  | _ => ⟨[], [], []⟩
def dok16 : Nat → Bool
  | 6 => true
  | _ => false
def draw17 : Nat → DrawAnn
  | 8 => ⟨[[], [0], [0, 1], [], [3], [], [0, 1, 3, 4, 5], [0, 1, 2, 3, 4, 5, 6], [0, 1, 2, 3, 4, 5, 6, 7], [0, 1, 2, 3, 4, 5, 6, 7, 8]], [(4, [1, 6], false), (5, [1, 6], false)], []⟩
  | _ => ⟨[], [], []⟩
def dok17 : Nat → Bool
  | 8 => true
  | _ => false
def draw18 : Nat → DrawAnn
  | 5 => ⟨[[], [], [1], [1, 2], [], [4], [], [1, 2, 4, 5, 6], [1, 2, 3, 4, 5, 6, 7], [1, 2, 3, 4, 5, 6, 7, 8], [0, 1, 2, 3, 4, 5, 6, 7, 8, 9], [0, 1, 2, 3, 4, 5, 6, 7, 8, 9, 10]], [(5, [2, 7], false), (6, [2, 7], false)], []⟩
  | _ => ⟨[], [], []⟩
def dok18 : Nat → Bool
  | 5 => true
  | _ => false
def draw19 : Nat → DrawAnn
  | 29 => ⟨[[], [0], [], [0, 1], [], [0, 1, 2, 3, 4], [0, 1, 2, 3, 4, 5], [0, 1, 2, 3, 4, 5, 6], [0, 1, 2, 3, 4, 5], [0, 1, 2, 3, 4, 5, 8]], [(1, [5], false), (2, [5], false)], [⟨7, 47, some 6, 105, 9, 25, some 8, 106⟩]⟩
  | _ => ⟨[], [], []⟩
def dok19 : Nat → Bool
  | 29 => true
  | _ => false
def draw23 : Nat → DrawAnn
  | 5 => ⟨[[], [0], [], [2], [2, 3], [0, 1, 2, 3, 4], [0, 1, 2, 3, 4, 5], [0, 1, 2, 3, 4, 5, 6]], [(1, [3, 5], false), (2, [3], false)], []⟩
  | _ => ⟨[], [], []⟩
def dok23 : Nat → Bool
  | 5 => true
  | _ => false
def draw25 : Nat → DrawAnn
  | 5 => ⟨[[], [0], [], [2], [], [], [5], [5, 6], [], [8], [8, 9], [5, 6, 7, 8, 9, 10], [2, 3, 4, 5, 6, 7, 8, 9, 10, 11], [2, 3, 4, 5, 6, 7, 8, 9, 10, 11, 12], [0, 1, 2, 3, 4, 5, 6, 7, 8, 9, 10, 11, 12, 13], [0, 1, 2, 3, 4, 5, 6, 7, 8, 9, 10, 11, 12, 13, 14], [0, 1, 2, 3, 4, 5, 6, 7, 8, 9, 10, 11, 12, 13, 14, 15]], [(1, [11, 12, 14], false), (3, [11, 12], false), (4, [11, 12], false), (6, [11], false), (9, [11], false)], []⟩
  | _ => ⟨[], [], []⟩
def dok25 : Nat → Bool
  | 5 => true
  | _ => false
def draw27 : Nat → DrawAnn
  | 18 => ⟨[[], [0], [], [2], [], [4], [], [4, 5, 6], [4, 5, 6, 7], [], [2, 3, 4, 5, 6, 7, 8, 9], [2, 3, 4, 5, 6, 7, 8, 9, 10], [0, 1, 2, 3, 4, 5, 6, 7, 8, 9, 10, 11], [0, 1, 2, 3, 4, 5, 6, 7, 8, 9, 10, 11, 12], [0, 1, 2, 3, 4, 5, 6, 7, 8, 9, 10, 11, 12, 13]], [(1, [10, 12], false), (3, [10], false), (5, [10], false), (8, [10], false)], []⟩
  | _ => ⟨[], [], []⟩
def dok27 : Nat → Bool
  | 18 => true
  | _ => false
def draw30 : Nat → DrawAnn
  | 6 => ⟨[[], [], [0, 1], [0, 1, 2], [], [], [4, 5], [4, 5, 6], [0, 1, 2, 3, 4, 5, 6, 7]], [(3, [], true), (7, [], true)], []⟩
  | _ => ⟨[], [], []⟩
def dok30 : Nat → Bool
  | 6 => true
  | _ => false
def draw40 : Nat → DrawAnn
  | 6 => ⟨[[], [0], [], [0, 1, 2], [0, 1, 2, 3], [], [5], [], [5, 6, 7], [5, 6, 7, 8], [0, 1, 2, 3, 4, 5, 6, 7, 8, 9], [0, 1, 2, 3, 4, 5, 6, 7, 8, 9, 10]], [(1, [10], false), (4, [10], false), (6, [10], false), (9, [10], false)], []⟩
  | _ => ⟨[], [], []⟩
def dok40 : Nat → Bool
  | 6 => true
  | _ => false
def draw42 : Nat → DrawAnn
  | 4 => ⟨[[], [0], [], [2], [2, 3], [0, 1, 2, 3, 4], [], [0, 1, 2, 3, 4, 5, 6]], [(1, [4, 6, 7], false), (3, [4], false)], []⟩
  | 8 => ⟨[[], [0], [], [], [2, 3], [2, 3, 4], [], [], [2, 3, 4, 5, 6, 7], [2, 3, 4, 5, 6, 7, 8], [0, 1, 2, 3, 4, 5, 6, 7, 8, 9], [0, 1, 2, 3, 4, 5, 6, 7, 8, 9, 10], [0, 1, 2, 3, 4, 5, 6, 7, 8, 9, 10, 11]], [(1, [8, 10], false), (5, [8], false), (6, [8], false)], []⟩
  | _ => ⟨[], [], []⟩
def dok42 : Nat → Bool
  | 4 => true
  | 8 => true
  | _ => false
def draw45 : Nat → DrawAnn
  | 7 => ⟨[[], [0], [0, 1], [], [3], [0, 1, 2, 3, 4], [], [0, 1, 2, 3, 4, 5, 6]], [(1, [2], false)], []⟩
  | 12 => ⟨[[], [0], [], [2], [], [2, 3, 4], [2, 3, 4, 5], [], [0, 1, 2, 3, 4, 5, 6, 7], [], [0, 1, 2, 3, 4, 5, 6, 7, 8, 9]], [(1, [8], false), (3, [8], false), (6, [8], false)], []⟩
  | 13 => ⟨[[], [], [0, 1], [0, 1, 2], [0, 1, 2, 3], [0, 1, 2, 3, 4], [0, 1, 2, 3, 4], [0, 1, 2, 3, 4, 6], [0, 1, 2, 3, 4], [0, 1, 2, 3, 4, 6, 7, 8], [0, 1, 2, 3, 4, 6, 7, 8, 9], [0, 1, 2, 3, 4, 5, 6, 7, 8, 9, 10], [0, 1, 2, 3, 4, 5, 6, 7, 8, 9, 10, 11], [0, 1, 2, 3, 4, 5, 6, 7, 8, 9, 10, 11, 12]], [(3, [11], false), (5, [11], false), (7, [11], false), (10, [11], false)], []⟩
  | _ => ⟨[], [], []⟩
def dok45 : Nat → Bool
  | 7 => true
  | 12 => true
  | 13 => true
  | _ => false
def draw48 : Nat → DrawAnn
  | 11 => ⟨[[], [0], [0, 1], [0, 1, 2], [0, 1, 2, 3], [], [0, 1, 2, 3, 4, 5], [], [7], [7, 8], [7, 8, 9], [0, 1, 2, 3, 4, 7, 8, 9, 10], [0, 1, 2, 3, 4, 5, 6, 7, 8, 9, 10, 11], [0, 1, 2, 3, 4, 5, 6, 7, 8, 9, 10, 11, 12]], [(1, [4], false), (3, [4], false), (8, [4, 11], false), (10, [4, 11], false)], []⟩
  | 20 => ⟨[[], [0], [0, 1], [], [3], [3, 4], [3, 4, 5], [0, 1, 2, 3, 4, 5, 6], [0, 1, 2, 3, 4, 5, 6, 7], [], [9], [9, 10], [9, 10, 11], [9, 10, 11, 12], [0, 1, 2, 3, 4, 5, 6, 7, 8, 9, 10, 11, 12, 13], [0, 1, 2, 3, 4, 5, 6, 7, 8, 9, 10, 11, 12, 13, 14], [0, 1, 2, 3, 4, 5, 6, 7, 8, 9, 10, 11, 12, 13, 14, 15]], [(1, [13], true), (4, [13], true), (10, [13], false), (12, [13], false)], []⟩
  | _ => ⟨[], [], []⟩
def dok48 : Nat → Bool
  | 11 => true
  | 20 => true
  | _ => false
def draw50 : Nat → DrawAnn
  | 6 => ⟨[[], [0], [0, 1], [0, 1, 2], [], [4], [4, 5], [4, 5, 6], [0, 1, 2, 3, 4, 5, 6, 7], [0, 1, 2, 3, 4, 5, 6, 7, 8], [0, 1, 2, 3, 4, 5, 6, 7, 8, 9], [], [11], [11, 12], [11, 12, 13], [], [15], [15, 16], [15, 16, 17], [0, 1, 2, 3, 4, 5, 6, 7, 8, 11, 12, 13, 14, 15, 16, 17, 18], [0, 1, 2, 3, 4, 5, 6, 7, 8, 9, 10, 11, 12, 13, 14, 15, 16, 17, 18, 19], [0, 1, 2, 3, 4, 5, 6, 7, 8, 9, 10, 11, 12, 13, 14, 15, 16, 17, 18, 19, 20], [0, 1, 2, 3, 4, 5, 6, 7, 8, 9, 10, 11, 12, 13, 14, 15, 16, 17, 18, 19, 20, 21]], [(1, [8], false), (3, [8], false), (5, [8], false), (7, [8], false), (12, [8, 19], false), (14, [8, 19], false), (16, [8, 19], false), (18, [8, 19], false)], []⟩
  | 8 => ⟨[[], [0], [], [2], [2, 3], [0, 1, 2, 3, 4], [0, 1, 2, 3, 4, 5], [], [7], [], [9], [7, 8, 9, 10], [7, 8, 9, 10, 11], [], [13], [13, 14], [13, 14, 15], [7, 8, 9, 10, 11, 12, 13, 14, 15, 16], [0, 1, 2, 3, 4, 5, 6, 7, 8, 9, 10, 11, 12, 13, 14, 15, 16, 17], [0, 1, 2, 3, 4, 5, 6, 7, 8, 9, 10, 11, 12, 13, 14, 15, 16, 17, 18]], [(1, [17], true), (3, [17], true), (8, [17], false), (10, [17], false), (12, [17], false), (14, [17], false), (16, [17], false)], []⟩
  | 17 => ⟨[[], [], [1], [1, 2], [1, 2, 3], [], [1, 2, 3, 4, 5], [0, 1, 2, 3, 4, 5, 6], [0, 1, 2, 3, 4, 5, 6, 7]], [(2, [6], false), (4, [6], false), (5, [6], false)], []⟩
  | _ => ⟨[], [], []⟩
def dok50 : Nat → Bool
  | 6 => true
  | 8 => true
  | 17 => true
  | _ => false
def draw51 : Nat → DrawAnn
  | 1 => ⟨[[], [0], [0, 1], [0, 1, 2], [0, 1, 2, 3], [], [5], [5, 6], [5, 6, 7], [5, 6, 7, 8], [0, 1, 2, 3, 4, 5, 6, 7, 8, 9], [0, 1, 2, 3, 4, 5, 6, 7, 8, 9, 10]], [(3, [], true), (8, [], true)], []⟩
  | _ => ⟨[], [], []⟩
def dok51 : Nat → Bool
  | 1 => true
  | _ => false
def draw52 : Nat → DrawAnn
  | 3 => ⟨[[], [0], [0, 1], [0, 1, 2], [0, 1, 2, 3], [0, 1, 2, 3, 4], [], [6], [6, 7], [6, 7, 8], [0, 1, 2, 3, 4, 6, 7, 8, 9], [0, 1, 2, 3, 4, 5, 6, 7, 8, 9, 10], [0, 1, 2, 3, 4, 5, 6, 7, 8, 9, 10, 11]], [(1, [4], false), (3, [4], false), (7, [4, 10], false), (9, [4, 10], false)], []⟩
  | 5 => ⟨[[], [0], [0, 1], [0, 1, 2], [0, 1, 2, 3], [0, 1, 2, 3, 4], [], [6], [6, 7], [6, 7, 8], [0, 1, 2, 3, 4, 6, 7, 8, 9], [0, 1, 2, 3, 4, 5, 6, 7, 8, 9, 10], [0, 1, 2, 3, 4, 5, 6, 7, 8, 9, 10, 11]], [(1, [4], false), (3, [4], false), (7, [4, 10], false), (9, [4, 10], false)], []⟩
  | _ => ⟨[], [], []⟩
def dok52 : Nat → Bool
  | 3 => true
  | 5 => true
  | _ => false
def draw54 : Nat → DrawAnn
  | 8 => ⟨[[], [], [], [1, 2], [1, 2, 3], [], [1, 2, 3, 4, 5], [1, 2, 3, 4, 5, 6], [0, 1, 2, 3, 4, 5, 6, 7], [0, 1, 2, 3, 4, 5, 6, 7, 8]], [(4, [6], false), (5, [6], false)], []⟩
  | _ => ⟨[], [], []⟩
def dok54 : Nat → Bool
  | 8 => true
  | _ => false
def draw58 : Nat → DrawAnn
  | 4 => ⟨[[], [], [1], [1, 2], [1, 2, 3], [1, 2, 3, 4], [1, 2, 3, 4, 5], [1, 2, 3, 4, 5, 6], [1, 2, 3, 4, 5, 6, 7], [1, 2, 3, 4, 5, 6, 7, 8], [1, 2, 3, 4, 5, 6, 7, 8, 9], [0, 1, 2, 3, 4], [0, 1, 2, 3, 4, 5, 6, 7, 8, 9, 10, 11]], [(0, [2, 11], false), (8, [11, 12], false)], []⟩
  | _ => ⟨[], [], []⟩
def dok58 : Nat → Bool
  | 4 => true
  | _ => false
def draw67 : Nat → DrawAnn
  | 5 => ⟨[[], [0], [], [2], [2, 3], [0, 1, 2, 3, 4], [0, 1, 2, 3, 4, 5], [0, 1, 2, 3, 4, 5, 6]], [(1, [3, 5], false), (2, [3], false)], []⟩
  | _ => ⟨[], [], []⟩
def dok67 : Nat → Bool
  | 5 => true
  | _ => false
def draw68 : Nat → DrawAnn
  | 1 => ⟨[[], [0], [], [2], [2, 3], [0, 1, 2, 3, 4], [], [0, 1, 2, 3, 4, 5, 6]], [(1, [4, 6, 7], false), (3, [4], false)], []⟩
  | 5 => ⟨[[], [0], [], [2], [2, 3], [0, 1, 2, 3, 4], [0, 1, 2, 3, 4, 5], [0, 1, 2, 3, 4, 5, 6]], [(1, [3, 5], false), (2, [3], false)], []⟩
  | _ => ⟨[], [], []⟩
def dok68 : Nat → Bool
  | 1 => true
  | 5 => true
  | _ => false
def draw70 : Nat → DrawAnn
  | 6 => ⟨[[], [0], [], [2], [], [], [2, 3, 4, 5], [2, 3, 4, 5, 6], [0, 1, 2, 3, 4, 5, 6, 7], [0, 1, 2, 3, 4, 5, 6, 7, 8], [0, 1, 2, 3, 4, 5, 6, 7, 8, 9]], [(1, [6, 8], false), (3, [6], false), (4, [6], false)], []⟩
  | _ => ⟨[], [], []⟩
def dok70 : Nat → Bool
  | 6 => true
  | _ => false
def draw75 : Nat → DrawAnn
  | 8 => ⟨[[], [0], [], [2], [], [2, 3, 4], [2, 3, 4, 5], [], [0, 1, 2, 3, 4, 5, 6, 7]], [(1, [8], false), (3, [8], false), (6, [8], false)], []⟩
  | _ => ⟨[], [], []⟩
def dok75 : Nat → Bool
  | 8 => true
  | _ => false
def draw76 : Nat → DrawAnn
  | 6 => ⟨[[], [0], [], [2], [2, 3], [0, 1, 2, 3, 4], [0, 1, 2, 3, 4, 5], [0, 1, 2, 3, 4, 5, 6]], [(1, [3, 5], false), (2, [3], false)], []⟩
  | _ => ⟨[], [], []⟩
def dok76 : Nat → Bool
  | 6 => true
  | _ => false
def draw77 : Nat → DrawAnn
  | 8 => ⟨[[], [], [1], [], [3], [], [3, 4, 5], [3, 4, 5, 6], [1, 2, 3, 4, 5, 6, 7], [0, 1, 2, 3, 4, 5, 6, 7, 8], [0, 1, 2, 3, 4, 5, 6, 7, 8, 9]], [(2, [8], false), (4, [8], false), (7, [8], false)], []⟩
  | _ => ⟨[], [], []⟩
def dok77 : Nat → Bool
  | 8 => true
  | _ => false
def draw78 : Nat → DrawAnn
  | 11 => ⟨[[], [0], [], [2], [], [4], [], [4, 5, 6], [4, 5, 6, 7], [], [2, 3, 4, 5, 6, 7, 8, 9], [2, 3, 4, 5, 6, 7, 8, 9, 10], [0, 1, 2, 3, 4, 5, 6, 7, 8, 9, 10, 11], [0, 1, 2, 3, 4, 5, 6, 7, 8, 9, 10, 11, 12], [0, 1, 2, 3, 4, 5, 6, 7, 8, 9, 10, 11, 12, 13]], [(1, [10, 12], false), (3, [10], false), (5, [10], false), (8, [10], false)], []⟩
  | _ => ⟨[], [], []⟩
def dok78 : Nat → Bool
  | 11 => true
  | _ => false
def draw84 : Nat → DrawAnn
  | 7 => ⟨[[], [0], [0, 1], [0, 1, 2], [], [4], [4, 5], [4, 5, 6], [], [0, 1, 2, 3, 4, 5, 6, 7, 8], [], [10], [10, 11], [10, 11, 12], [], [14], [14, 15], [14, 15, 16], [], [0, 1, 2, 3, 4, 5, 6, 7, 8, 9, 10, 11, 12, 13, 14, 15, 16, 17, 18], [0, 1, 2, 3, 4, 5, 6, 7, 8, 9, 10, 11, 12, 13, 14, 15, 16, 17, 18, 19], [0, 1, 2, 3, 4, 5, 6, 7, 8, 9, 10, 11, 12, 13, 14, 15, 16, 17, 18, 19, 20], [0, 1, 2, 3, 4, 5, 6, 7, 8, 9, 10, 11, 12, 13, 14, 15, 16, 17, 18, 19, 20, 21]], [(1, [9], false), (3, [9], false), (5, [9], false), (7, [9], false), (11, [9, 19], false), (13, [9, 19], false), (15, [9, 19], false), (17, [9, 19], false)], []⟩
  | 9 => ⟨[[], [0], [], [2], [], [4], [2, 3, 4, 5], [2, 3, 4, 5, 6], [], [8], [8, 9], [8, 9, 10], [], [2, 3, 4, 5, 6, 7, 8, 9, 10, 11, 12], [2, 3, 4, 5, 6, 7, 8, 9, 10, 11, 12, 13], [0, 1, 2, 3, 4, 5, 6, 7, 8, 9, 10, 11, 12, 13, 14], [0, 1, 2, 3, 4, 5, 6, 7, 8, 9, 10, 11, 12, 13, 14, 15]], [(1, [13, 16], false), (3, [13], false), (5, [13], false), (7, [13], false), (9, [13], false), (11, [13], false)], []⟩
  | 14 => ⟨[[], [0], [], [2], [2, 3], [2, 3, 4], [], [], [2, 3, 4, 5, 6, 7], [2, 3, 4, 5, 6, 7, 8], [0, 1, 2, 3, 4, 5, 6, 7, 8, 9], [0, 1, 2, 3, 4, 5, 6, 7, 8, 9, 10], [0, 1, 2, 3, 4, 5, 6, 7, 8, 9, 10, 11]], [(1, [8, 10], false), (3, [8], false), (5, [8], false), (6, [8], false)], []⟩
  | _ => ⟨[], [], []⟩
def dok84 : Nat → Bool
  | 7 => true
  | 9 => true
  | 14 => true
  | _ => false
def draw86 : Nat → DrawAnn
  | 6 => ⟨[[], [0], [], [0, 1, 2], [0, 1, 2, 3], [], [5], [], [5, 6, 7], [5, 6, 7, 8], [0, 1, 2, 3, 4, 5, 6, 7, 8, 9], [0, 1, 2, 3, 4, 5, 6, 7, 8, 9, 10]], [(1, [10], false), (4, [10], false), (6, [10], false), (9, [10], false)], []⟩
  | 14 => ⟨[[], [0], [], [0, 1, 2], [0, 1, 2, 3], [], [5], [], [5, 6, 7], [5, 6, 7, 8], [0, 1, 2, 3, 4, 5, 6, 7, 8, 9]], [(1, [], true), (4, [], true), (6, [], true), (9, [], true)], []⟩
  | 15 => ⟨[[], [0], [], [0, 1, 2], [0, 1, 2, 3], [], [5], [], [5, 6, 7], [5, 6, 7, 8], [0, 1, 2, 3, 4, 5, 6, 7, 8, 9], [0, 1, 2, 3, 4, 5, 6, 7, 8, 9, 10]], [(1, [10], false), (4, [10], false), (6, [10], false), (9, [10], false)], []⟩
  | _ => ⟨[], [], []⟩
def dok86 : Nat → Bool
  | 6 => true
  | 14 => true
  | 15 => true
  | _ => false
def draw87 : Nat → DrawAnn
  | 18 => ⟨[[], [], [1], [], [3], [3, 4], [1, 2, 3, 4, 5], [0], [0, 1, 2, 3, 4, 5, 6, 7]], [(4, [], true)], []⟩
  | _ => ⟨[], [], []⟩
def dok87 : Nat → Bool
  | 18 => true
  | _ => false
def draw89 : Nat → DrawAnn
  | 7 => ⟨[[], [], [1], [], [1, 2, 3], [1, 2, 3, 4], [0, 1, 2, 3, 4, 5], [0, 1, 2, 3, 4, 5, 6]], [(0, [6], false), (2, [6], false), (5, [6], false)], []⟩
  | 11 => ⟨[[], [0], [], [0, 1, 2], [0, 1, 2, 3], [], [5], [0, 1, 2, 3, 4, 5, 6], [], [8], [], [8, 9, 10], [0, 1, 2, 3, 4, 5, 6, 7, 8, 9, 10, 11], [0, 1, 2, 3, 4, 5, 6, 7, 8, 9, 10, 11, 12], [0, 1, 2, 3, 4, 5, 6, 7, 8, 9, 10, 11, 12, 13]], [(1, [4], false), (5, [4, 7], false), (9, [4, 7, 12], false)], []⟩
  | 13 => ⟨[[], [0], [], [0, 1, 2], [0, 1, 2, 3], [], [0, 1, 2, 3, 4, 5], [], [7], [], [7, 8, 9], [0, 1, 2, 3, 4, 5, 6, 7, 8, 9, 10], [0, 1, 2, 3, 4, 5, 6, 7, 8, 9, 10, 11], [0, 1, 2, 3, 4, 5, 6, 7, 8, 9, 10, 11, 12]], [(1, [4], false), (8, [4, 6, 11], false)], []⟩
  | 15 => ⟨[[], [0], [], [0, 1, 2], [0, 1, 2, 3], [], [5], [], [5, 6, 7], [5, 6, 7, 8], [0, 1, 2, 3, 4, 5, 6, 7, 8, 9], [0, 1, 2, 3, 4, 5, 6, 7, 8, 9, 10], [0, 1, 2, 3, 4, 5, 6, 7, 8, 9, 10, 11]], [(1, [12], false), (4, [12], false), (6, [12], false), (9, [12], false)], []⟩
  | 27 => ⟨[[], [0], [], [], [3], [], [3, 4, 5], [3, 4, 5, 6], [], [3, 4, 5, 6, 7, 8], [0, 1, 2, 3, 4, 5, 6, 7, 8, 9], [0, 1, 2, 3, 4, 5, 6, 7, 8, 9, 10]], [(1, [11], false), (4, [11], false), (7, [11], false)], []⟩
  | _ => ⟨[], [], []⟩
def dok89 : Nat → Bool
  | 7 => true
  | 11 => true
  | 13 => true
  | 15 => true
  | 27 => true
  | _ => false
def draw97 : Nat → DrawAnn
  | 5 => ⟨[[], [], [1], [0, 1, 2], [0, 1, 2, 3], [], [5], [5, 6], [0, 1, 2, 3, 4, 5, 6, 7], [0, 1, 2, 3, 4, 5, 6, 7, 8]], [(2, [], true), (4, [], true), (7, [], true)], []⟩
  | 11 => ⟨[[], [], [0, 1], [0, 1, 2], [], [4], [], [4, 5, 6], [4, 5, 6, 7], [4, 5, 6, 7, 8], [4, 5, 6, 7, 8, 9], [0, 1, 2, 3, 4, 5, 6, 7, 8, 9, 10], [0, 1, 2, 3, 4, 5, 6, 7, 8, 9, 10, 11], [0, 1, 2, 3, 4, 5, 6, 7, 8, 9, 10, 11, 12]], [(3, [9, 13], false), (5, [9], false), (8, [9], false)], []⟩
  | _ => ⟨[], [], []⟩
def dok97 : Nat → Bool
  | 5 => true
  | 11 => true
  | _ => false
def draw103 : Nat → DrawAnn
  | 3 => ⟨[[], [], [1], [0, 1, 2], [0, 1, 2, 3], [0, 1, 2, 3, 4]], [(0, [2, 5], false)], []⟩
  | 5 => ⟨[[], [], [1], [0, 1, 2], [0, 1, 2, 3], [0, 1, 2, 3, 4]], [(0, [2, 5], false)], []⟩
  | _ => ⟨[], [], []⟩
def dok103 : Nat → Bool
  | 3 => true
  | 5 => true
  | _ => false
def draw106 : Nat → DrawAnn
  | 25 => ⟨[[], [], [1], [1, 2], [1, 2, 3], [], [5], [5, 6], [0, 1, 2, 3, 4, 5, 6, 7], [0, 1, 2, 3, 4, 5, 6, 7, 8]], [(2, [8], false), (4, [8], false), (6, [8], false)], []⟩
  | _ => ⟨[], [], []⟩
def dok106 : Nat → Bool
  | 25 => true
  | _ => false
def draw110 : Nat → DrawAnn
  | 10 => ⟨[[], [], [], [2], [1, 2, 3], [0, 1, 2, 3, 4], [0, 1, 2, 3, 4, 5]], [(1, [3, 5], false)], []⟩
  | _ => ⟨[], [], []⟩
def dok110 : Nat → Bool
  | 10 => true
  | _ => false
def draw111 : Nat → DrawAnn
  | 6 => ⟨[[], [], [1], [1, 2], [1, 2, 3], [1, 2, 3, 4], [1, 2, 3, 4, 5], [1, 2, 3, 4, 5, 6], [1, 2, 3, 4, 5, 6, 7], [1, 2, 3, 4, 5, 6, 7, 8], [1, 2, 3, 4, 5, 6, 7, 8, 9], [1, 2, 3, 4, 5, 6, 7, 8, 9, 10], [1, 2, 3, 4, 5, 6, 7, 8, 9, 10, 11], [1, 2, 3, 4, 5, 6, 7, 8, 9, 10, 11, 12], [0, 1, 2, 3, 4, 5, 6], [0, 1, 2, 3, 4, 5, 6, 7, 8, 9, 10, 11, 12, 13, 14]], [(0, [14], false), (4, [14], false), (10, [14], true)], []⟩
  | _ => ⟨[], [], []⟩
def dok111 : Nat → Bool
  | 6 => true
  | _ => false
def draw114 : Nat → DrawAnn
  | 5 => ⟨[[], [0], [], [2], [2, 3], [0, 1, 2, 3, 4], [0, 1, 2, 3, 4, 5], [0, 1, 2, 3, 4, 5, 6]], [(1, [3, 5], false), (2, [3], false)], []⟩
  | _ => ⟨[], [], []⟩
def dok114 : Nat → Bool
  | 5 => true
  | _ => false
def draw117 : Nat → DrawAnn
  | 2 => ⟨[[], [0], [0, 1], [], [3], [3, 4], [0, 1, 2, 3, 4, 5], [0, 1, 2, 3, 4, 5, 6], [0, 1, 2, 3, 4, 5, 6, 7], [0, 1, 2, 3, 4, 5, 6, 7, 8], [0, 1, 2, 3, 4, 5, 6, 7], [0, 1, 2, 3, 4, 5, 6, 7, 8, 9, 10], [0, 1, 2, 3, 4, 5, 6, 7, 8, 9, 10, 11], [0, 1, 2, 3, 4, 5, 6, 7, 8, 9, 10, 11, 12], [0, 1, 2, 3, 4, 5, 6, 7, 8, 9, 10, 11, 12, 13], [0, 1, 2, 3, 4, 5, 6, 7, 8, 9, 10, 11, 12, 13, 14], [0, 1, 2, 3, 4, 5, 6, 7, 8, 9, 10, 11, 12, 13], [0, 1, 2, 3, 4, 5, 6, 7, 8, 9, 10, 11, 12, 13, 16], [0, 1, 2, 3, 4, 5, 6, 7, 8, 9, 10, 11, 12, 13, 16, 17], [0, 1, 2, 3, 4, 5, 6, 7, 8, 9, 10, 11, 12, 13, 14, 15, 16, 17, 18], [0, 1, 2, 3, 4, 5, 6, 7, 8, 9, 10, 11, 12, 13, 14, 15, 16, 17, 18, 19]], [(1, [5, 18], false), (4, [5], false), (9, [18], false), (15, [18], true), (17, [18], false)], []⟩
  | _ => ⟨[], [], []⟩
def dok117 : Nat → Bool
  | 2 => true
  | _ => false
def draw121 : Nat → DrawAnn
  | 7 => ⟨[[], [], [0, 1], [0, 1, 2], [], [4], [0, 1, 2, 3, 4, 5], [], [], [7, 8], [0, 1, 2, 3, 4, 5, 6, 7, 8, 9], [0, 1, 2, 3, 4, 5, 6, 7, 8, 9, 10]], [], []⟩
  | _ => ⟨[], [], []⟩
def dok121 : Nat → Bool
  | 7 => true
  | _ => false
def draw122 : Nat → DrawAnn
  | 7 => ⟨[[], [], [0, 1], [0, 1, 2], [], [], [0, 1, 2, 3, 4, 5], [0, 1, 2, 3, 4, 5, 6]], [(3, [6], false), (4, [6], false)], []⟩
  | _ => ⟨[], [], []⟩
def dok122 : Nat → Bool
  | 7 => true
  | _ => false
def draw129 : Nat → DrawAnn
  | 16 => ⟨[[], [0], [0, 1], [0, 1, 2], [0, 1, 2, 3], [0, 1, 2], [0, 1, 2, 3, 4, 5], [0, 1, 2, 3, 4, 5, 6], [0, 1, 2], [0, 1, 2, 8], [0, 1, 2, 3, 4, 5, 6, 7, 8, 9], [0, 1, 2, 3, 4, 5, 6, 7, 8, 9, 10]], [(4, [10], false), (7, [10], false), (9, [10], false)], []⟩
  | 18 => ⟨[[], [0], [], [0, 1, 2], [0, 1, 2, 3], [], [5], [0, 1, 2, 3, 4, 5, 6], [0, 1, 2, 3, 4, 5, 6, 7], [0, 1, 2, 3, 4, 5, 6, 7, 8]], [(1, [9], false), (4, [9], false), (6, [9], false)], []⟩
  | _ => ⟨[], [], []⟩
def dok129 : Nat → Bool
  | 16 => true
  | 18 => true
  | _ => false
def draw132 : Nat → DrawAnn
  | 2 => ⟨[[], [], [], [1, 2], [0, 1], [0, 1, 2, 3, 4]], [], []⟩
  | _ => ⟨[], [], []⟩
def dok132 : Nat → Bool
  | 2 => true
  | _ => false
def draw133 : Nat → DrawAnn
  | 2 => ⟨[[], [0], [0, 1], [0, 1, 2], [0, 1, 2, 3], [0, 1, 2, 3, 4], [0, 1, 2, 3, 4, 5], [0, 1, 2, 3, 4, 5, 6], [0, 1, 2, 3, 4, 5, 6, 7], [0, 1, 2, 3, 4, 5, 6, 7, 8], [0, 1, 2, 3, 4, 5, 6, 7, 8, 9], [0, 1, 2, 3, 4, 5, 6, 7, 8, 9, 10], [0, 1, 2, 3, 4, 5, 6, 7, 8, 9, 10, 11], [0, 1, 2, 3, 4, 5, 6, 7, 8, 9, 10, 11, 12], [0, 1, 2, 3, 4, 5, 6, 7, 8, 9, 10, 11, 12, 13], [0, 1, 2, 3, 4, 5, 6, 7, 8, 9, 10, 11, 12, 13, 14], [0, 1, 2, 3, 4, 5, 6, 7, 8, 9, 10, 11, 12, 13, 14, 15], [0, 1, 2, 3, 4, 5, 6, 7, 8, 9, 10, 11, 12, 13, 14, 15, 16], [0, 1, 2, 3, 4, 5, 6, 7, 8, 9, 10, 11, 12, 13, 14, 15, 16, 17], [0, 1, 2, 3, 4, 5, 6, 7, 8, 9, 10, 11, 12, 13, 14, 15, 16, 17, 18], [0, 1, 2, 3, 4, 5, 6, 7, 8, 9, 10, 11, 12, 13, 14, 15, 16, 17, 18, 19], [0, 1, 2, 3, 4, 5, 6, 7, 8, 9, 10, 11, 12, 13, 14, 15, 16, 17, 18, 19, 20], [0, 1, 2, 3, 4, 5, 6, 7, 8, 9, 10, 11, 12, 13, 14, 15, 16, 17, 18], [0, 1, 2, 3, 4, 5, 6, 7, 8, 9, 10, 11, 12, 13, 14, 15, 16, 17, 18, 22], [0, 1, 2, 3, 4, 5, 6, 7, 8, 9, 10, 11, 12, 13, 14, 15, 16, 17, 18, 22, 23], [0, 1, 2, 3, 4, 5, 6, 7, 8, 9, 10, 11, 12, 13, 14, 15, 16, 17, 18, 22, 23, 24], [0, 1, 2, 3, 4, 5, 6, 7, 8, 9, 10, 11, 12, 13, 14, 15, 16, 17, 18, 22, 23, 24, 25], [0, 1, 2, 3, 4, 5, 6, 7, 8, 9, 10, 11, 12, 13, 14, 15, 16, 17, 18, 19, 20, 21, 22, 23, 24, 25, 26], [0, 1, 2, 3, 4, 5, 6, 7, 8, 9, 10, 11, 12, 13, 14, 15, 16, 17, 18, 19, 20, 21, 22, 23, 24, 25, 26, 27]], [(2, [], true), (10, [], true), (15, [], true), (20, [], true), (23, [], true), (26, [], true)], []⟩
  | _ => ⟨[], [], []⟩
def dok133 : Nat → Bool
  | 2 => true
  | _ => false
def draw134 : Nat → DrawAnn
  | 11 => ⟨[[], [0], [0, 1], [0, 1, 2], [0, 1, 2, 3], [0, 1, 2, 3, 4], [0, 1, 2, 3, 4, 5], [0, 1, 2, 3, 4, 5, 6], [0, 1, 2, 3, 4, 5, 6, 7], [0, 1, 2, 3, 4, 5, 6, 7, 8], [0, 1, 2, 3, 4, 5, 6, 7], [0, 1, 2, 3, 4, 5, 6, 7, 10], [0, 1, 2, 3, 4, 5, 6, 7, 10, 11], [0, 1, 2, 3, 4, 5, 6, 7, 10, 11, 12], [0, 1, 2, 3, 4, 5, 6, 7, 8, 9, 10, 11, 12, 13], [0, 1, 2, 3, 4, 5, 6, 7, 8, 9, 10, 11, 12, 13, 14], [0, 1, 2, 3, 4, 5, 6, 7, 8, 9, 10, 11, 12, 13, 14, 15]], [(4, [], true), (9, [], true), (13, [], true)], []⟩
  | 15 => ⟨[[], [0], [0, 1], [0, 1, 2], [0, 1, 2], [0, 1, 2, 4], [0, 1, 2, 4, 5], [0, 1, 2, 4, 5, 6], [0, 1, 2], [0, 1, 2, 8], [0, 1, 2, 8, 9], [0, 1, 2, 8, 9, 10], [0, 1, 2, 3, 4, 5, 6, 7, 8, 9, 10, 11], [0, 1, 2, 3, 4, 5, 6, 7, 8, 9, 10, 11, 12], [0, 1, 2, 3, 4, 5, 6, 7, 8, 9, 10, 11, 12, 13], [0, 1, 2, 3, 4, 5, 6, 7, 8, 9, 10, 11, 12, 13, 14], [0, 1, 2, 3, 4, 5, 6, 7, 8, 9, 10, 11, 12, 13, 14], [0, 1, 2, 3, 4, 5, 6, 7, 8, 9, 10, 11, 12, 13, 14, 16], [0, 1, 2, 3, 4, 5, 6, 7, 8, 9, 10, 11, 12, 13, 14, 16, 17], [0, 1, 2, 3, 4, 5, 6, 7, 8, 9, 10, 11, 12, 13, 14, 16, 17, 18], [0, 1, 2, 3, 4, 5, 6, 7, 8, 9, 10, 11, 12, 13, 14], [0, 1, 2, 3, 4, 5, 6, 7, 8, 9, 10, 11, 12, 13, 14, 20], [0, 1, 2, 3, 4, 5, 6, 7, 8, 9, 10, 11, 12, 13, 14, 20, 21], [0, 1, 2, 3, 4, 5, 6, 7, 8, 9, 10, 11, 12, 13, 14, 20, 21, 22], [0, 1, 2, 3, 4, 5, 6, 7, 8, 9, 10, 11, 12, 13, 14, 15, 16, 17, 18, 19, 20, 21, 22, 23], [0, 1, 2, 3, 4, 5, 6, 7, 8, 9, 10, 11, 12, 13, 14, 15, 16, 17, 18, 19, 20, 21, 22, 23, 24], [0, 1, 2, 3, 4, 5, 6, 7, 8, 9, 10, 11, 12, 13, 14, 15, 16, 17, 18, 19, 20, 21, 22, 23, 24, 25]], [(5, [12], false), (7, [12], false), (9, [12], false), (11, [12], false), (17, [24], false), (19, [24], false), (21, [24], false), (23, [24], false)], []⟩
  | 17 => ⟨[[], [0], [0, 1], [0, 1, 2], [0, 1, 2, 3], [0, 1, 2, 3, 4], [0, 1, 2, 3, 4, 5], [0, 1, 2, 3, 4, 5, 6], [0, 1, 2, 3, 4, 5, 6, 7], [0, 1, 2, 3, 4, 5, 6, 7, 8], [0, 1, 2, 3, 4, 5, 6, 7, 8, 9], [0, 1, 2, 3, 4, 5, 6, 7, 8, 9, 10], [0, 1, 2, 3, 4, 5, 6, 7, 8, 9, 10, 11], [0, 1, 2, 3, 4, 5, 6, 7, 8, 9, 10, 11, 12], [0, 1, 2, 3, 4, 5, 6, 7, 8, 9, 10, 11, 12], [0, 1, 2, 3, 4, 5, 6, 7, 8, 9, 10, 11, 12, 14], [0, 1, 2, 3, 4, 5, 6, 7, 8, 9, 10, 11, 12], [0, 1, 2, 3, 4, 5, 6, 7, 8, 9, 10, 11, 12, 16], [0, 1, 2, 3, 4, 5, 6, 7, 8, 9, 10, 11, 12, 14, 15, 16, 17], [0, 1, 2, 3, 4, 5, 6, 7, 8, 9, 10, 11, 12, 14, 15, 16, 17, 18], [0, 1, 2, 3, 4, 5, 6, 7, 8, 9, 10, 11, 12], [0, 1, 2, 3, 4, 5, 6, 7, 8, 9, 10, 11, 12, 20], [0, 1, 2, 3, 4, 5, 6, 7, 8, 9, 10, 11, 12, 20, 21], [0, 1, 2, 3, 4, 5, 6, 7, 8, 9, 10, 11, 12, 20, 21, 22], [0, 1, 2, 3, 4, 5, 6, 7, 8, 9, 10, 11, 12, 13, 14, 15, 16, 17, 18, 19, 20, 21, 22, 23], [0, 1, 2, 3, 4, 5, 6, 7, 8, 9, 10, 11, 12, 13, 14, 15, 16, 17, 18, 19, 20, 21, 22, 23, 24], [0, 1, 2, 3, 4, 5, 6, 7, 8, 9, 10, 11, 12, 13, 14, 15, 16, 17, 18, 19, 20, 21, 22, 23, 24, 25]], [(4, [24], false), (8, [24], false), (15, [24], false), (17, [24], false), (19, [24], false), (21, [24], false), (23, [24], false)], []⟩
  | 24 => ⟨[[], [], [1], [1, 2], [1, 2, 3], [], [0, 1, 2, 3, 4, 5], [0, 1, 2, 3, 4, 5, 6]], [(2, [6], false), (4, [6], false), (5, [6], false)], []⟩
  | _ => ⟨[], [], []⟩
def dok134 : Nat → Bool
  | 11 => true
  | 15 => true
  | 17 => true
  | 24 => true
  | _ => false
def draw138 : Nat → DrawAnn
  | 3 => ⟨[[], [], [0, 1], [], [], [], [5], [4, 5, 6], [3, 4, 5, 6, 7], [0, 1, 2], [0, 1, 2, 3, 4, 5, 6, 7, 8, 9], [0, 1, 2, 3, 4, 5, 6, 7, 8, 9, 10]], [], []⟩
  | _ => ⟨[], [], []⟩
def dok138 : Nat → Bool
  | 3 => true
  | _ => false
def draw144 : Nat → DrawAnn
  | 3 => ⟨[[], [0], [], [2], [0, 1, 2, 3], [0, 1, 2, 3, 4]], [(2, [1, 5], false)], []⟩
  | _ => ⟨[], [], []⟩
def dok144 : Nat → Bool
  | 3 => true
  | _ => false
def draw149 : Nat → DrawAnn
  | 5 => ⟨[[], [0], [], [], [2, 3], [2, 3, 4], [0, 1, 2, 3, 4, 5], [0, 1, 2, 3, 4, 5, 6], [0, 1, 2, 3, 4, 5, 6, 7]], [(1, [4, 6], false), (3, [4], false)], []⟩
  | 8 => ⟨[[], [0], [], [2], [2, 3], [0, 1, 2, 3, 4], [0, 1, 2, 3, 4, 5], [0, 1, 2, 3, 4, 5, 6]], [(1, [3, 5], false)], []⟩
  | _ => ⟨[], [], []⟩
def dok149 : Nat → Bool
  | 5 => true
  | 8 => true
  | _ => false
def draw151 : Nat → DrawAnn
  | 6 => ⟨[[], [0], [0, 1], [0, 1, 2], [], [4], [4, 5], [4, 5, 6], [0, 1, 2, 3, 4, 5, 6, 7], [0, 1, 2, 3, 4, 5, 6, 7, 8], [0, 1, 2, 3, 4, 5, 6, 7, 8, 9], [0, 1, 2, 3, 4, 5, 6, 7, 8, 9, 10], [0, 1, 2, 3, 4, 5, 6, 7, 8, 9, 10, 11], [0, 1, 2, 3, 4, 5, 6, 7, 8, 9, 10, 11, 12], [0, 1, 2, 3, 4, 5, 6, 7, 8, 9], [0, 1, 2, 3, 4, 5, 6, 7, 8, 9, 14], [0, 1, 2, 3, 4, 5, 6, 7, 8, 9, 14, 15], [0, 1, 2, 3, 4, 5, 6, 7, 8, 9, 14, 15, 16], [0, 1, 2, 3, 4, 5, 6, 7, 8, 9, 10, 11, 12, 13, 14, 15, 16, 17], [0, 1, 2, 3, 4, 5, 6, 7, 8, 9, 10, 11, 12, 13, 14, 15, 16, 17, 18], [0, 1, 2, 3, 4, 5, 6, 7, 8, 9, 10, 11, 12, 13, 14, 15, 16, 17, 18, 19]], [(1, [8], false), (3, [8], false), (5, [8], false), (7, [8], false), (11, [18], false), (13, [18], false), (15, [18], false), (17, [18], false)], []⟩
  | 8 => ⟨[[], [0], [], [2], [0, 1, 2, 3], [0, 1, 2, 3, 4], [], [6], [6, 7], [6, 7, 8], [0, 1, 2, 3, 4, 5, 6, 7, 8, 9], [0, 1, 2, 3, 4, 5, 6, 7, 8, 9, 10]], [(1, [10], false), (3, [10], false), (5, [10], false), (7, [10], false), (9, [10], false)], []⟩
  | _ => ⟨[], [], []⟩
def dok151 : Nat → Bool
  | 6 => true
  | 8 => true
  | _ => false
def draw154 : Nat → DrawAnn
  | 4 => ⟨[[], [0], [0, 1], [], [3], [0, 1, 2, 3, 4], [0, 1, 2, 3, 4, 5]], [(3, [1, 2, 5], false)], []⟩
  | _ => ⟨[], [], []⟩
def dok154 : Nat → Bool
  | 4 => true
  | _ => false
def draw158 : Nat → DrawAnn
  | 11 => ⟨[[], [], [1], [1, 2], [1, 2, 3], [], [1, 2, 3, 4, 5], [0, 1, 2, 3, 4, 5, 6], [0, 1, 2, 3, 4, 5, 6, 7], [0, 1, 2, 3, 4, 5, 6, 7, 8]], [(0, [6, 9], false), (2, [6], false), (4, [6], false)], []⟩
  | 26 => ⟨[[], [0], [], [2], [2, 3], [2, 3, 4], [], [2, 3, 4, 5, 6], [0, 1], [], [0, 1, 2, 3, 4, 5, 6, 7, 8, 9], [0, 1, 2, 3, 4, 5, 6, 7, 8, 9, 10], [0, 1, 2, 3, 4, 5, 6, 7, 8, 9, 10, 11], [0, 1, 2, 3, 4, 5, 6, 7, 8, 9, 10], [0, 1, 2, 3, 4, 5, 6, 7, 8, 9, 10, 13]], [(1, [7, 10], false), (3, [7], false), (5, [7], false)], [⟨12, 47, some 11, 102, 14, 25, some 13, 103⟩]⟩
  | _ => ⟨[], [], []⟩
def dok158 : Nat → Bool
  | 11 => true
  | 26 => true
  | _ => false
def draw159 : Nat → DrawAnn
  | 4 => ⟨[[], [0], [], [2], [2, 3], [0, 1, 2, 3, 4], [], [0, 1, 2, 3, 4, 5, 6]], [(1, [4, 6, 7], false), (3, [4], false)], []⟩
  | 8 => ⟨[[], [], [0, 1], [0, 1, 2], [], [], [0, 1, 2, 3, 4, 5], [0, 1, 2, 3, 4, 5, 6], [0, 1, 2, 3, 4, 5, 6, 7], [0, 1, 2, 3, 4, 5, 6, 7], [], [0, 1, 2, 3, 4, 5, 6, 7, 8, 10], [0, 1, 2, 3, 4, 5, 6, 7, 8, 9, 10, 11]], [(3, [6], false), (5, [6], false)], []⟩
  | _ => ⟨[], [], []⟩
def dok159 : Nat → Bool
  | 4 => true
  | 8 => true
  | _ => false
def draw160 : Nat → DrawAnn
  | 7 => ⟨[[], [], [0, 1], [0, 1, 2], [], [0, 1, 2, 3, 4]], [(3, [5], false), (4, [5], false)], []⟩
  | _ => ⟨[], [], []⟩
def dok160 : Nat → Bool
  | 7 => true
  | _ => false
def draw161 : Nat → DrawAnn
  | 1 => ⟨[[], [0], [], [2], [2, 3], [0, 1, 2, 3, 4], [], [0, 1, 2, 3, 4, 5, 6]], [(1, [4, 6, 7], false), (3, [4], false)], []⟩
  | 5 => ⟨[[], [0], [], [2], [2, 3], [0, 1, 2, 3, 4], [0, 1, 2, 3, 4, 5], [0, 1, 2, 3, 4, 5, 6]], [(1, [3, 5], false), (2, [3], false)], []⟩
  | _ => ⟨[], [], []⟩
def dok161 : Nat → Bool
  | 1 => true
  | 5 => true
  | _ => false
def draw164 : Nat → DrawAnn
  | 11 => ⟨[[], [], [1], [1, 2], [1, 2, 3], [], [5], [5, 6], [5, 6, 7], [0, 1, 2, 3, 4, 5, 6, 7, 8]], [(0, [9], false), (2, [9], false), (4, [9], false), (6, [9], false), (8, [9], false)], []⟩
  | 12 => ⟨[[], [], [1], [1, 2], [1, 2, 3], [], [5], [5, 6], [5, 6, 7], [0, 1, 2, 3, 4, 5, 6, 7, 8]], [(0, [9], false), (2, [9], false), (4, [9], false), (6, [9], false), (8, [9], false)], []⟩
  | 14 => ⟨[[], [], [1], [], [3], [1, 2, 3, 4], [1, 2, 3, 4, 5], [], [7], [7, 8], [7, 8, 9], [0, 1, 2, 3, 4, 5, 6, 7, 8, 9, 10]], [(0, [11], false), (2, [11], false), (4, [11], false), (6, [11], false), (8, [11], false), (10, [11], false)], []⟩
  | 5 => ⟨[[], [], [1], [1, 2], [1, 2, 3], [], [0, 1, 2, 3, 4, 5]], [(0, [6], false), (2, [6], false), (4, [6], false), (5, [6], false)], []⟩
  | _ => ⟨[], [], []⟩
def dok164 : Nat → Bool
  | 11 => true
  | 12 => true
  | 14 => true
  | 5 => true
  | _ => false
def draw169 : Nat → DrawAnn
  | 6 => ⟨[[], [], [], [1, 2], [0, 1], [0, 1, 2, 3, 4]], [], []⟩
  | _ => ⟨[], [], []⟩
def dok169 : Nat → Bool
  | 6 => true
  | _ => false
def draw170 : Nat → DrawAnn
  | 10 => ⟨[[], [0], [], [2], [0, 1, 2, 3], [0, 1, 2, 3, 4], [], [6], [], [6, 7, 8], [6, 7, 8, 9], [0, 1, 2, 3, 4, 5, 6, 7, 8, 9, 10], [0, 1, 2, 3, 4, 5, 6, 7, 8, 9, 10, 11]], [(1, [11], false), (5, [11], false), (7, [11], false), (10, [11], false)], []⟩
  | _ => ⟨[], [], []⟩
def dok170 : Nat → Bool
  | 10 => true
  | _ => false
def draw173 : Nat → DrawAnn
  | 7 => ⟨[[], [], [1], [], [], [4], [], [6], [6, 7], [], [9], [0, 1, 2, 6, 7, 8], [0, 1, 2, 6, 7, 8, 11], [0, 1, 2, 3, 4, 5, 6, 7, 8, 9, 10, 11, 12], [0, 1, 2, 3, 4, 5, 6, 7, 8, 9, 10, 11, 12, 13]], [], []⟩
  | 8 => ⟨[[], [], [1], [], [], [4], [], [6], [6, 7], [], [9], [0, 1, 2, 6, 7, 8], [0, 1, 2, 6, 7, 8, 11], [0, 1, 2, 3, 4, 5, 6, 7, 8, 9, 10, 11, 12], [0, 1, 2, 3, 4, 5, 6, 7, 8, 9, 10, 11, 12, 13]], [], []⟩
  | 9 => ⟨[[], [], [1], [], [], [4], [], [6], [6, 7], [], [9], [0, 1, 2, 6, 7, 8], [0, 1, 2, 6, 7, 8, 11], [0, 1, 2, 3, 4, 5, 6, 7, 8, 9, 10, 11, 12], [0, 1, 2, 3, 4, 5, 6, 7, 8, 9, 10, 11, 12, 13]], [], []⟩
  | 10 => ⟨[[], [], [1], [], [], [4], [], [6], [6, 7], [], [9], [0, 1, 2, 6, 7, 8], [0, 1, 2, 6, 7, 8, 11], [0, 1, 2, 3, 4, 5, 6, 7, 8, 9, 10, 11, 12], [0, 1, 2, 3, 4, 5, 6, 7, 8, 9, 10, 11, 12, 13]], [], []⟩
  | 17 => ⟨[[], [], [1], [], [], [4], [], [6], [6, 7], [], [9], [0, 1, 2, 6, 7, 8], [0, 1, 2, 6, 7, 8, 11], [0, 1, 2, 3, 4, 5, 6, 7, 8, 9, 10, 11, 12], [0, 1, 2, 3, 4, 5, 6, 7, 8, 9, 10, 11, 12, 13]], [], []⟩
  | 18 => ⟨[[], [], [1], [], [], [4], [], [6], [6, 7], [], [9], [0, 1, 2, 6, 7, 8], [0, 1, 2, 6, 7, 8, 11], [0, 1, 2, 3, 4, 5, 6, 7, 8, 9, 10, 11, 12], [0, 1, 2, 3, 4, 5, 6, 7, 8, 9, 10, 11, 12, 13]], [], []⟩
  | 23 => ⟨[[], [], [1], [], [], [4], [], [6], [6, 7], [], [9], [0, 1, 2, 6, 7, 8], [0, 1, 2, 6, 7, 8, 11], [0, 1, 2, 3, 4, 5, 6, 7, 8, 9, 10, 11, 12], [0, 1, 2, 3, 4, 5, 6, 7, 8, 9, 10, 11, 12, 13]], [], []⟩
  | _ => ⟨[], [], []⟩
def dok173 : Nat → Bool
  | 7 => true
  | 8 => true
  | 9 => true
  | 10 => true
  | 17 => true
  | 18 => true
  | 23 => true
  | _ => false
def draw184 : Nat → DrawAnn
  | 1 => ⟨[[], [0], [0, 1], [0, 1, 2], [], [0, 1, 2, 3, 4], [0, 1, 2, 3, 4, 5], [0, 1, 2, 3, 4, 5, 6]], [(1, [5], false), (3, [5], false), (4, [5], false)], []⟩
  | _ => ⟨[], [], []⟩
def dok184 : Nat → Bool
  | 1 => true
  | _ => false
def draw189 : Nat → DrawAnn
  | 6 => ⟨[[], [0], [0, 1], [0, 1, 2], [], [4], [4, 5], [4, 5, 6], [], [4, 5, 6, 7, 8], [0, 1, 2, 3], [], [0, 1, 2, 3, 4, 5, 6, 7, 8, 9, 10, 11], [0, 1, 2, 3, 4, 5, 6, 7, 8, 9, 10, 11, 12], [0, 1, 2, 3, 4, 5, 6, 7, 8, 9, 10, 11, 12, 13], [0, 1, 2, 3, 4, 5, 6, 7, 8, 9, 10, 11, 12], [0, 1, 2, 3, 4, 5, 6, 7, 8, 9, 10, 11, 12, 15], [0, 1, 2, 3, 4, 5, 6, 7, 8, 9, 10, 11, 12, 15, 16]], [(3, [9, 12], false), (5, [9], false), (7, [9], false)], [⟨14, 47, some 13, 34, 17, 25, some 16, 36⟩]⟩
  | 9 => ⟨[[], [], [1], [1, 2], [1, 2, 3], [], [5], [5, 6], [1, 2, 3, 4, 5, 6, 7], [0, 1, 2, 3, 4, 5, 6, 7, 8], [0, 1, 2, 3, 4, 5, 6, 7, 8, 9], [0, 1, 2, 3, 4, 5, 6, 7, 8, 9, 10]], [(4, [6, 8], false)], []⟩
  | _ => ⟨[], [], []⟩
def dok189 : Nat → Bool
  | 6 => true
  | 9 => true
  | _ => false
def draw192 : Nat → DrawAnn
  | 17 => ⟨[[], [0], [0, 1], [0, 1, 2], [0, 1, 2], [0, 1, 2], [0, 1, 2, 5], [0, 1, 2, 4, 5, 6], [0, 1, 2, 4, 5, 6, 7], [0, 1, 2], [0, 1, 2], [0, 1, 2, 9, 10], [0, 1, 2, 9, 10, 11], [0, 1, 2, 3, 4, 5, 6, 7, 8, 9, 10, 11, 12], [0, 1, 2, 3, 4, 5, 6, 7, 8, 9, 10, 11, 12, 13], [0, 1, 2, 3, 4, 5, 6, 7, 8, 9, 10, 11, 12, 13, 14], [0, 1, 2, 3, 4, 5, 6, 7, 8, 9, 10, 11, 12, 13, 14, 15]], [(8, [13], false), (12, [13], false)], []⟩
  | _ => ⟨[], [], []⟩
def dok192 : Nat → Bool
  | 17 => true
  | _ => false
def draw205 : Nat → DrawAnn
  | 6 => ⟨[[], [], [0, 1], [], [], [3, 4], [0, 1, 2, 3, 4, 5]], [], []⟩
  | 7 => ⟨[[], [], [1], [0, 1, 2], [], [], [4, 5], [0, 1, 2, 3, 4, 5, 6], [0, 1, 2, 3, 4, 5, 6, 7]], [], []⟩
  | 14 => ⟨[[], [], [], [1, 2], [0, 1, 2, 3], [], [], [], [6, 7], [5, 6, 7, 8], [0, 1, 2, 3, 4, 5, 6, 7, 8, 9]], [], []⟩
  | 31 => ⟨[[], [], [], [1, 2], [0, 1, 2, 3], [], [], [], [6, 7], [5, 6, 7, 8], [0, 1, 2, 3, 4, 5, 6, 7, 8, 9]], [], []⟩
  | _ => ⟨[], [], []⟩
def dok205 : Nat → Bool
  | 6 => true
  | 7 => true
  | 14 => true
  | 31 => true
  | _ => false
def draw206 : Nat → DrawAnn
  | 1 => ⟨[[], [], [1], [0, 1, 2]], [(0, [2, 3], false), (1, [2], false)], []⟩
  | _ => ⟨[], [], []⟩
def dok206 : Nat → Bool
  | 1 => true
  | _ => false
def draw211 : Nat → DrawAnn
  | 4 => ⟨[[], [], [0, 1], [0, 1, 2], [0, 1, 2, 3], [0, 1, 2, 3], [0, 1, 2, 3], [0, 1, 2, 3, 5, 6], [0, 1, 2, 3, 5, 6, 7], [0, 1, 2, 3], [0, 1, 2, 3], [0, 1, 2, 3, 10], [0, 1, 2, 3, 9, 10, 11], [0, 1, 2, 3, 9, 10, 11, 12], [0, 1, 2, 3, 4, 5, 6, 7, 8, 9, 10, 11, 12, 13], [0, 1, 2, 3, 4, 5, 6, 7, 8, 9, 10, 11, 12, 13, 14], [0, 1, 2, 3, 4, 5, 6, 7, 8, 9, 10, 11, 12, 13, 14, 15]], [(8, [14], false), (13, [14], false)], []⟩
  | 6 => ⟨[[], [], [], [], [3], [], [], [6], [5, 6, 7], [5, 6, 7, 8], [], [], [10, 11], [10, 11, 12], [0, 1, 5, 6, 7, 8, 9, 10, 11, 12, 13], [0, 1, 5, 6, 7, 8, 9, 10, 11, 12, 13, 14], [0, 1, 2, 3, 4, 5, 6, 7, 8, 9, 10, 11, 12, 13, 14, 15], [0, 1, 2, 3, 4, 5, 6, 7, 8, 9, 10, 11, 12, 13, 14, 15, 16]], [(9, [15], false), (13, [15], false)], []⟩
  | _ => ⟨[], [], []⟩
def dok211 : Nat → Bool
  | 4 => true
  | 6 => true
  | _ => false
def draw212 : Nat → DrawAnn
  | 10 => ⟨[[], [], [], [], [], [3, 4], [], [], [], [7, 8], [6, 7, 8, 9], [6, 7, 8, 9, 10], [], [], [12, 13], [12, 13, 14], [0, 1, 6, 7, 8, 9, 10, 11, 12, 13, 14, 15], [0, 1, 6, 7, 8, 9, 10, 11, 12, 13, 14, 15, 16], [0, 1, 2, 3, 4, 5, 6, 7, 8, 9, 10, 11, 12, 13, 14, 15, 16, 17], [0, 1, 2, 3, 4, 5, 6, 7, 8, 9, 10, 11, 12, 13, 14, 15, 16, 17, 18]], [(11, [17], false), (15, [17], false)], []⟩
  | _ => ⟨[], [], []⟩
def dok212 : Nat → Bool
  | 10 => true
  | _ => false
def draw213 : Nat → DrawAnn
  | 10 => ⟨[[], [], [], [], [], [3, 4], [], [], [], [7, 8], [6, 7, 8, 9], [6, 7, 8, 9, 10], [], [], [12, 13], [12, 13, 14], [0, 1, 6, 7, 8, 9, 10, 11, 12, 13, 14, 15], [0, 1, 6, 7, 8, 9, 10, 11, 12, 13, 14, 15, 16], [0, 1, 2, 3, 4, 5, 6, 7, 8, 9, 10, 11, 12, 13, 14, 15, 16, 17], [0, 1, 2, 3, 4, 5, 6, 7, 8, 9, 10, 11, 12, 13, 14, 15, 16, 17, 18]], [(11, [17], false), (15, [17], false)], []⟩
  | _ => ⟨[], [], []⟩
def dok213 : Nat → Bool
  | 10 => true
  | _ => false
def draw215 : Nat → DrawAnn
  | 3 => ⟨[[], [], [], [], [], [], [4, 5], [4, 5, 6], [], [], [8, 9], [8, 9, 10], [0, 1, 4, 5, 6, 7, 8, 9, 10, 11], [0, 1, 4, 5, 6, 7, 8, 9, 10, 11, 12], [0, 1, 2, 3, 4, 5, 6, 7, 8, 9, 10, 11, 12, 13], [0, 1, 2, 3, 4, 5, 6, 7, 8, 9, 10, 11, 12, 13, 14]], [(7, [13], false), (11, [13], false)], []⟩
  | _ => ⟨[], [], []⟩
def dok215 : Nat → Bool
  | 3 => true
  | _ => false
def draw216 : Nat → DrawAnn
  | 5 => ⟨[[], [], [0, 1], [0, 1, 2], [0, 1, 2, 3], [0, 1, 2, 3], [0, 1, 2, 3], [0, 1, 2, 3, 5, 6], [0, 1, 2, 3, 5, 6, 7], [0, 1, 2, 3], [0, 1, 2, 3], [0, 1, 2, 3, 10], [0, 1, 2, 3, 9, 10, 11], [0, 1, 2, 3, 9, 10, 11, 12], [0, 1, 2, 3, 4, 5, 6, 7, 8, 9, 10, 11, 12, 13], [0, 1, 2, 3, 4, 5, 6, 7, 8, 9, 10, 11, 12, 13, 14], [0, 1, 2, 3, 4, 5, 6, 7, 8, 9, 10, 11, 12, 13, 14, 15], [0, 1, 2, 3, 4, 5, 6, 7, 8, 9, 10, 11, 12, 13, 14, 15, 16]], [(8, [14], false), (13, [14], false)], []⟩
  | 11 => ⟨[[], [], [], [], [3], [], [], [6], [5, 6, 7], [5, 6, 7, 8], [], [], [10, 11], [10, 11, 12], [0, 1, 5, 6, 7, 8, 9, 10, 11, 12, 13], [0, 1, 5, 6, 7, 8, 9, 10, 11, 12, 13, 14], [0, 1, 2, 3, 4, 5, 6, 7, 8, 9, 10, 11, 12, 13, 14, 15], [0, 1, 2, 3, 4, 5, 6, 7, 8, 9, 10, 11, 12, 13, 14, 15, 16]], [(9, [15], false), (13, [15], false)], []⟩
  | 16 => ⟨[[], [], [], [1, 2], [1, 2, 3], [], [], [6], [5, 6, 7], [5, 6, 7, 8], [0, 1, 2, 3, 4, 5, 6, 7, 8, 9], [0, 1, 2, 3, 4, 5, 6, 7, 8, 9, 10], [0, 1, 2, 3, 4, 5, 6, 7, 8, 9, 10, 11]], [(4, [10], false), (9, [10], false)], []⟩
  | 17 => ⟨[[], [], [], [], [3], [], [], [6], [5, 6, 7], [5, 6, 7, 8], [], [], [10, 11], [10, 11, 12], [0, 1, 5, 6, 7, 8, 9, 10, 11, 12, 13], [0, 1, 5, 6, 7, 8, 9, 10, 11, 12, 13, 14], [0, 1, 2, 3, 4, 5, 6, 7, 8, 9, 10, 11, 12, 13, 14, 15], [0, 1, 2, 3, 4, 5, 6, 7, 8, 9, 10, 11, 12, 13, 14, 15, 16]], [(9, [15], false), (13, [15], false)], []⟩
  | 22 => ⟨[[], [], [], [1, 2], [1, 2, 3], [], [], [6], [5, 6, 7], [5, 6, 7, 8], [0, 1, 2, 3, 4, 5, 6, 7, 8, 9], [0, 1, 2, 3, 4, 5, 6, 7, 8, 9, 10], [0, 1, 2, 3, 4, 5, 6, 7, 8, 9, 10, 11]], [(4, [10], false), (9, [10], false)], []⟩
  | 23 => ⟨[[], [], [], [], [3], [], [], [6], [5, 6, 7], [5, 6, 7, 8], [], [], [10, 11], [10, 11, 12], [0, 1, 5, 6, 7, 8, 9, 10, 11, 12, 13], [0, 1, 5, 6, 7, 8, 9, 10, 11, 12, 13, 14], [0, 1, 2, 3, 4, 5, 6, 7, 8, 9, 10, 11, 12, 13, 14, 15], [0, 1, 2, 3, 4, 5, 6, 7, 8, 9, 10, 11, 12, 13, 14, 15, 16]], [(9, [15], false), (13, [15], false)], []⟩
  | _ => ⟨[], [], []⟩
def dok216 : Nat → Bool
  | 5 => true
  | 11 => true
  | 16 => true
  | 17 => true
  | 22 => true
  | 23 => true
  | _ => false
def draw217 : Nat → DrawAnn
  | 1 => ⟨[[], [], [], [], [], [], [4, 5], [4, 5, 6], [], [], [8, 9], [8, 9, 10], [0, 1, 4, 5, 6, 7, 8, 9, 10, 11], [0, 1, 4, 5, 6, 7, 8, 9, 10, 11, 12], [0, 1, 2, 3, 4, 5, 6, 7, 8, 9, 10, 11, 12, 13], [0, 1, 2, 3, 4, 5, 6, 7, 8, 9, 10, 11, 12, 13, 14]], [(7, [13], false), (11, [13], false)], []⟩
  | 3 => ⟨[[], [], [0, 1], [0, 1, 2], [0, 1, 2, 3], [0, 1, 2, 3], [0, 1, 2, 3], [0, 1, 2, 3, 5, 6], [0, 1, 2, 3, 5, 6, 7], [0, 1, 2, 3], [0, 1, 2, 3], [0, 1, 2, 3, 9, 10], [0, 1, 2, 3, 9, 10, 11], [0, 1, 2, 3, 4, 5, 6, 7, 8, 9, 10, 11, 12], [0, 1, 2, 3, 4, 5, 6, 7, 8, 9, 10, 11, 12, 13], [0, 1, 2, 3, 4, 5, 6, 7, 8, 9, 10, 11, 12, 13, 14], [0, 1, 2, 3, 4, 5, 6, 7, 8, 9, 10, 11, 12, 13, 14, 15]], [(8, [13], false), (12, [13], false)], []⟩
  | 5 => ⟨[[], [], [0, 1], [0, 1, 2], [0, 1, 2, 3], [0, 1, 2, 3], [0, 1, 2, 3], [0, 1, 2, 3, 5, 6], [0, 1, 2, 3, 5, 6, 7], [0, 1, 2, 3], [0, 1, 2, 3], [0, 1, 2, 3, 9, 10], [0, 1, 2, 3, 9, 10, 11], [0, 1, 2, 3, 4, 5, 6, 7, 8, 9, 10, 11, 12], [0, 1, 2, 3, 4, 5, 6, 7, 8, 9, 10, 11, 12, 13], [0, 1, 2, 3, 4, 5, 6, 7, 8, 9, 10, 11, 12, 13, 14]], [(8, [13], false), (12, [13], false)], []⟩
  | 8 => ⟨[[], [], [], [], [], [], [4, 5], [4, 5, 6], [], [], [8, 9], [8, 9, 10], [0, 1, 4, 5, 6, 7, 8, 9, 10, 11], [0, 1, 4, 5, 6, 7, 8, 9, 10, 11, 12], [0, 1, 2, 3, 4, 5, 6, 7, 8, 9, 10, 11, 12, 13], [0, 1, 2, 3, 4, 5, 6, 7, 8, 9, 10, 11, 12, 13, 14]], [(7, [13], false), (11, [13], false)], []⟩
  | _ => ⟨[], [], []⟩
def dok217 : Nat → Bool
  | 1 => true
  | 3 => true
  | 5 => true
  | 8 => true
  | _ => false
def draw218 : Nat → DrawAnn
  | 1 => ⟨[[], [], [], [], [], [], [4, 5], [4, 5, 6], [], [], [8, 9], [8, 9, 10], [0, 1, 4, 5, 6, 7, 8, 9, 10, 11], [0, 1, 4, 5, 6, 7, 8, 9, 10, 11, 12], [0, 1, 2, 3, 4, 5, 6, 7, 8, 9, 10, 11, 12, 13], [0, 1, 2, 3, 4, 5, 6, 7, 8, 9, 10, 11, 12, 13, 14]], [(7, [13], false), (11, [13], false)], []⟩
  | 3 => ⟨[[], [], [0, 1], [0, 1, 2], [0, 1, 2, 3], [0, 1, 2, 3], [0, 1, 2, 3], [0, 1, 2, 3, 5, 6], [0, 1, 2, 3, 5, 6, 7], [0, 1, 2, 3], [0, 1, 2, 3], [0, 1, 2, 3, 9, 10], [0, 1, 2, 3, 9, 10, 11], [0, 1, 2, 3, 4, 5, 6, 7, 8, 9, 10, 11, 12], [0, 1, 2, 3, 4, 5, 6, 7, 8, 9, 10, 11, 12, 13], [0, 1, 2, 3, 4, 5, 6, 7, 8, 9, 10, 11, 12, 13, 14]], [(8, [13], false), (12, [13], false)], []⟩
  | 5 => ⟨[[], [], [0, 1], [0, 1, 2], [0, 1, 2, 3], [0, 1, 2, 3], [0, 1, 2, 3], [0, 1, 2, 3, 5, 6], [0, 1, 2, 3, 5, 6, 7], [0, 1, 2, 3], [0, 1, 2, 3], [0, 1, 2, 3, 9, 10], [0, 1, 2, 3, 9, 10, 11], [0, 1, 2, 3, 4, 5, 6, 7, 8, 9, 10, 11, 12], [0, 1, 2, 3, 4, 5, 6, 7, 8, 9, 10, 11, 12, 13], [0, 1, 2, 3, 4, 5, 6, 7, 8, 9, 10, 11, 12, 13, 14], [0, 1, 2, 3, 4, 5, 6, 7, 8, 9, 10, 11, 12, 13, 14, 15]], [(8, [13], false), (12, [13], false)], []⟩
  | 8 => ⟨[[], [], [], [], [], [], [4, 5], [4, 5, 6], [], [], [8, 9], [8, 9, 10], [0, 1, 4, 5, 6, 7, 8, 9, 10, 11], [0, 1, 4, 5, 6, 7, 8, 9, 10, 11, 12], [0, 1, 2, 3, 4, 5, 6, 7, 8, 9, 10, 11, 12, 13], [0, 1, 2, 3, 4, 5, 6, 7, 8, 9, 10, 11, 12, 13, 14]], [(7, [13], false), (11, [13], false)], []⟩
  | 10 => ⟨[[], [], [], [], [], [], [4, 5], [4, 5, 6], [], [], [8, 9], [8, 9, 10], [0, 1, 4, 5, 6, 7, 8, 9, 10, 11], [0, 1, 4, 5, 6, 7, 8, 9, 10, 11, 12], [0, 1, 2, 3, 4, 5, 6, 7, 8, 9, 10, 11, 12, 13], [0, 1, 2, 3, 4, 5, 6, 7, 8, 9, 10, 11, 12, 13, 14]], [(7, [13], false), (11, [13], false)], []⟩
  | 13 => ⟨[[], [], [0, 1], [0, 1, 2], [0, 1, 2, 3], [0, 1, 2, 3], [0, 1, 2, 3], [0, 1, 2, 3, 5, 6], [0, 1, 2, 3, 5, 6, 7], [0, 1, 2, 3], [0, 1, 2, 3], [0, 1, 2, 3, 9, 10], [0, 1, 2, 3, 9, 10, 11], [0, 1, 2, 3, 4, 5, 6, 7, 8, 9, 10, 11, 12], [0, 1, 2, 3, 4, 5, 6, 7, 8, 9, 10, 11, 12, 13], [0, 1, 2, 3, 4, 5, 6, 7, 8, 9, 10, 11, 12, 13, 14]], [(8, [13], false), (12, [13], false)], []⟩
  | 15 => ⟨[[], [], [0, 1], [0, 1, 2], [0, 1, 2, 3], [0, 1, 2, 3], [0, 1, 2, 3], [0, 1, 2, 3, 5, 6], [0, 1, 2, 3, 5, 6, 7], [0, 1, 2, 3], [0, 1, 2, 3], [0, 1, 2, 3, 9, 10], [0, 1, 2, 3, 9, 10, 11], [0, 1, 2, 3, 4, 5, 6, 7, 8, 9, 10, 11, 12], [0, 1, 2, 3, 4, 5, 6, 7, 8, 9, 10, 11, 12, 13], [0, 1, 2, 3, 4, 5, 6, 7, 8, 9, 10, 11, 12, 13, 14], [0, 1, 2, 3, 4, 5, 6, 7, 8, 9, 10, 11, 12, 13, 14, 15]], [(8, [13], false), (12, [13], false)], []⟩
  | 18 => ⟨[[], [], [], [], [], [], [4, 5], [4, 5, 6], [], [], [8, 9], [8, 9, 10], [0, 1, 4, 5, 6, 7, 8, 9, 10, 11], [0, 1, 4, 5, 6, 7, 8, 9, 10, 11, 12], [0, 1, 2, 3, 4, 5, 6, 7, 8, 9, 10, 11, 12, 13], [0, 1, 2, 3, 4, 5, 6, 7, 8, 9, 10, 11, 12, 13, 14]], [(7, [13], false), (11, [13], false)], []⟩
  | 21 => ⟨[[], [], [], [], [], [], [4, 5], [4, 5, 6], [], [], [8, 9], [8, 9, 10], [0, 1, 4, 5, 6, 7, 8, 9, 10, 11], [0, 1, 4, 5, 6, 7, 8, 9, 10, 11, 12], [0, 1, 2, 3, 4, 5, 6, 7, 8, 9, 10, 11, 12, 13], [0, 1, 2, 3, 4, 5, 6, 7, 8, 9, 10, 11, 12, 13, 14]], [(7, [13], false), (11, [13], false)], []⟩
  | _ => ⟨[], [], []⟩
def dok218 : Nat → Bool
  | 1 => true
  | 3 => true
  | 5 => true
  | 8 => true
  | 10 => true
  | 13 => true
  | 15 => true
  | 18 => true
  | 21 => true
  | _ => false
def draw227 : Nat → DrawAnn
  | 1 => ⟨[[], [], [1], [], [0, 1, 2, 3], [0, 1, 2, 3, 4], [0, 1, 2, 3, 4, 5]], [(3, [2, 5], false)], []⟩
  | _ => ⟨[], [], []⟩
def dok227 : Nat → Bool
  | 1 => true
  | _ => false
def draw228 : Nat → DrawAnn
  | 1 => ⟨[[], [], [1], [], [0, 1, 2, 3], [0, 1, 2, 3, 4], [0, 1, 2, 3, 4, 5]], [(3, [2, 5], false)], []⟩
  | _ => ⟨[], [], []⟩
def dok228 : Nat → Bool
  | 1 => true
  | _ => false
def draw231 : Nat → DrawAnn
  | 3 => ⟨[[], [0], [], [0, 1, 2], [0, 1, 2, 3], [0, 1, 2, 3, 4], [0, 1, 2, 3, 4], [0, 1, 2, 3, 4], [0, 1, 2, 3, 4], [0, 1, 2, 3, 4, 7, 8], [0, 1, 2, 3, 4, 6, 7, 8, 9], [0, 1, 2, 3, 4, 6, 7, 8, 9, 10], [0, 1, 2, 3, 4], [0, 1, 2, 3, 4], [0, 1, 2, 3, 4], [0, 1, 2, 3, 4, 13, 14], [0, 1, 2, 3, 4, 13, 14, 15], [0, 1, 2, 3, 4, 12, 13, 14, 15, 16], [0, 1, 2, 3, 4, 12, 13, 14, 15, 16, 17], [0, 1, 2, 3, 4, 5, 6, 7, 8, 9, 10, 11, 12, 13, 14, 15, 16, 17, 18], [0, 1, 2, 3, 4, 5, 6, 7, 8, 9, 10, 11, 12, 13, 14, 15, 16, 17, 18, 19], [0, 1, 2, 3, 4, 5, 6, 7, 8, 9, 10, 11, 12, 13, 14, 15, 16, 17, 18, 19, 20]], [(11, [19], false), (18, [19], false)], []⟩
  | 5 => ⟨[[], [], [], [], [2, 3], [1, 2, 3, 4], [1, 2, 3, 4, 5], [], [], [], [8, 9], [7, 8, 9, 10], [7, 8, 9, 10, 11], [0, 1, 2, 3, 4, 5, 6, 7, 8, 9, 10, 11, 12], [0, 1, 2, 3, 4, 5, 6, 7, 8, 9, 10, 11, 12, 13], [0, 1, 2, 3, 4, 5, 6, 7, 8, 9, 10, 11, 12, 13, 14]], [(6, [13], false), (12, [13], false)], []⟩
  | 6 => ⟨[[], [], [], [1, 2], [], [], [], [5, 6], [], [], [], [9, 10], [8, 9, 10, 11], [8, 9, 10, 11, 12], [], [], [], [15, 16], [14, 15, 16, 17], [14, 15, 16, 17, 18], [0, 1, 2, 3, 8, 9, 10, 11, 12, 13, 14, 15, 16, 17, 18, 19], [0, 1, 2, 3, 8, 9, 10, 11, 12, 13, 14, 15, 16, 17, 18, 19, 20], [0, 1, 2, 3, 4, 5, 6, 7, 8, 9, 10, 11, 12, 13, 14, 15, 16, 17, 18, 19, 20, 21], [0, 1, 2, 3, 4, 5, 6, 7, 8, 9, 10, 11, 12, 13, 14, 15, 16, 17, 18, 19, 20, 21, 22]], [(13, [21], false), (19, [21], false)], []⟩
  | _ => ⟨[], [], []⟩
def dok231 : Nat → Bool
  | 3 => true
  | 5 => true
  | 6 => true
  | _ => false
def draw233 : Nat → DrawAnn
  | 1 => ⟨[[], [0], [0, 1], [], [3], [3, 4], [3, 4, 5], [0, 1, 2, 3, 4, 5, 6], [0, 1, 2, 3, 4, 5, 6, 7], [0, 1, 2, 3, 4, 5, 6, 7, 8]], [(2, [9], false), (5, [9], false)], []⟩
  | 2 => ⟨[[], [0], [0, 1], [], [3], [3, 4], [3, 4, 5], [0, 1, 2, 3, 4, 5, 6], [0, 1, 2, 3, 4, 5, 6, 7], [0, 1, 2, 3, 4, 5, 6, 7, 8]], [(2, [9], false), (5, [9], false)], []⟩
  | 3 => ⟨[[], [0], [0, 1], [], [3], [3, 4], [3, 4, 5], [0, 1, 2, 3, 4, 5, 6], [0, 1, 2, 3, 4, 5, 6, 7], [0, 1, 2, 3, 4, 5, 6, 7, 8]], [(2, [9], false), (5, [9], false)], []⟩
  | _ => ⟨[], [], []⟩
def dok233 : Nat → Bool
  | 1 => true
  | 2 => true
  | 3 => true
  | _ => false
def draw239 : Nat → DrawAnn
  | 1 => ⟨[[], [], [], [1, 2], [1, 2, 3], [], [], [5, 6], [5, 6, 7], [0, 1, 2, 3, 4, 5, 6, 7, 8], [0, 1, 2, 3, 4, 5, 6, 7, 8, 9]], [(4, [9], false), (8, [9], false)], []⟩
  | _ => ⟨[], [], []⟩
def dok239 : Nat → Bool
  | 1 => true
  | _ => false
def ann : Ann where
  reg := fun f i => match f with
    | 2 => reg2 i
    | 3 => reg3 i
    | 4 => reg4 i
    | 5 => reg5 i
    | 6 => reg6 i
    | 7 => reg7 i
    | 8 => reg8 i
    | 9 => reg9 i
    | 10 => reg10 i
    | 11 => reg11 i
    | 12 => reg12 i
    | 13 => reg13 i
    | 14 => reg14 i
    | 15 => reg15 i
    | 16 => reg16 i
    | 17 => reg17 i
    | 18 => reg18 i
    | 19 => reg19 i
    | 20 => reg20 i
    | 21 => reg21 i
    | 22 => reg22 i
    | 23 => reg23 i
    | 24 => reg24 i
    | 25 => reg25 i
    | 26 => reg26 i
    | 27 => reg27 i
    | 28 => reg28 i
    | 29 => reg29 i
    | 30 => reg30 i
    | 31 => reg31 i
    | 32 => reg32 i
    | 33 => reg33 i
    | 34 => reg34 i
    | 35 => reg35 i
    | 36 => reg36 i
    | 37 => reg37 i
    | 38 => reg38 i
    | 39 => reg39 i
    | 40 => reg40 i
    | 41 => reg41 i
    | 42 => reg42 i
    | 43 => reg43 i
    | 44 => reg44 i
    | 45 => reg45 i
    | 46 => reg46 i
    | 47 => reg47 i
    | 48 => reg48 i
    | 49 => reg49 i
    | 50 => reg50 i
    | 51 => reg51 i
    | 52 => reg52 i
    | 53 => reg53 i
    | 54 => reg54 i
    | 55 => reg55 i
    | 56 => reg56 i
    | 57 => reg57 i
    | 58 => reg58 i
    | 59 => reg59 i
    | 60 => reg60 i
    | 61 => reg61 i
    | 62 => reg62 i
    | 63 => reg63 i
    | 64 => reg64 i
    | 65 => reg65 i
    | 66 => reg66 i
    | 67 => reg67 i
    | 68 => reg68 i
    | 69 => reg69 i
    | 70 => reg70 i
    | 71 => reg71 i
    | 72 => reg72 i
    | 73 => reg73 i
    | 74 => reg74 i
    | 75 => reg75 i
    | 76 => reg76 i
    | 77 => reg77 i
    | 78 => reg78 i
    | 79 => reg79 i
    | 80 => reg80 i
    | 81 => reg81 i
    | 82 => reg82 i
    | 83 => reg83 i
    | 84 => reg84 i
    | 85 => reg85 i
    | 86 => reg86 i
    | 87 => reg87 i
    | 88 => reg88 i
    | 89 => reg89 i
    | 90 => reg90 i
    | 91 => reg91 i
    | 92 => reg92 i
    | 93 => reg93 i
    | 95 => reg95 i
    | 96 => reg96 i
    | 97 => reg97 i
    | 98 => reg98 i
    | 99 => reg99 i
    | 100 => reg100 i
    | 101 => reg101 i
    | 102 => reg102 i
    | 103 => reg103 i
    | 104 => reg104 i
    | 105 => reg105 i
    | 106 => reg106 i
    | 107 => reg107 i
    | 108 => reg108 i
    | 109 => reg109 i
    | 110 => reg110 i
    | 111 => reg111 i
    | 112 => reg112 i
    | 113 => reg113 i
    | 114 => reg114 i
    | 115 => reg115 i
    | 116 => reg116 i
    | 117 => reg117 i
    | 118 => reg118 i
    | 119 => reg119 i
    | 120 => reg120 i
    | 121 => reg121 i
    | 122 => reg122 i
    | 123 => reg123 i
    | 124 => reg124 i
    | 125 => reg125 i
    | 126 => reg126 i
    | 127 => reg127 i
    | 128 => reg128 i
    | 129 => reg129 i
    | 130 => reg130 i
    | 131 => reg131 i
    | 132 => reg132 i
    | 133 => reg133 i
    | 134 => reg134 i
    | 136 => reg136 i
    | 137 => reg137 i
    | 138 => reg138 i
    | 139 => reg139 i
    | 140 => reg140 i
    | 141 => reg141 i
    | 142 => reg142 i
    | 143 => reg143 i
    | 144 => reg144 i
    | 145 => reg145 i
    | 146 => reg146 i
    | 147 => reg147 i
    | 148 => reg148 i
    | 149 => reg149 i
    | 150 => reg150 i
    | 151 => reg151 i
    | 152 => reg152 i
    | 153 => reg153 i
    | 154 => reg154 i
    | 155 => reg155 i
    | 156 => reg156 i
    | 157 => reg157 i
    | 158 => reg158 i
    | 159 => reg159 i
    | 160 => reg160 i
    | 161 => reg161 i
    | 162 => reg162 i
    | 163 => reg163 i
    | 164 => reg164 i
    | 165 => reg165 i
    | 166 => reg166 i
    | 167 => reg167 i
    | 168 => reg168 i
    | 169 => reg169 i
    | 170 => reg170 i
    | 171 => reg171 i
    | 172 => reg172 i
    | 173 => reg173 i
    | 174 => reg174 i
    | 175 => reg175 i
    | 176 => reg176 i
    | 177 => reg177 i
    | 178 => reg178 i
    | 179 => reg179 i
    | 180 => reg180 i
    | 181 => reg181 i
    | 182 => reg182 i
    | 183 => reg183 i
    | 184 => reg184 i
    | 185 => reg185 i
    | 186 => reg186 i
    | 187 => reg187 i
    | 188 => reg188 i
    | 189 => reg189 i
    | 190 => reg190 i
    | 191 => reg191 i
    | 192 => reg192 i
    | 193 => reg193 i
    | 194 => reg194 i
    | 195 => reg195 i
    | 196 => reg196 i
    | 197 => reg197 i
    | 198 => reg198 i
    | 199 => reg199 i
    | 200 => reg200 i
    | 202 => reg202 i
    | 203 => reg203 i
    | 204 => reg204 i
    | 206 => reg206 i
    | 207 => reg207 i
    | 208 => reg208 i
    | 209 => reg209 i
    | 210 => reg210 i
    | 211 => reg211 i
    | 212 => reg212 i
    | 213 => reg213 i
    | 214 => reg214 i
    | 215 => reg215 i
    | 216 => reg216 i
    | 217 => reg217 i
    | 218 => reg218 i
    | 219 => reg219 i
    | 220 => reg220 i
    | 221 => reg221 i
    | 223 => reg223 i
    | 224 => reg224 i
    | 225 => reg225 i
    | 226 => reg226 i
    | 227 => reg227 i
    | 228 => reg228 i
    | 229 => reg229 i
    | 230 => reg230 i
    | 231 => reg231 i
    | 232 => reg232 i
    | 233 => reg233 i
    | 234 => reg234 i
    | 235 => reg235 i
    | 236 => reg236 i
    | 237 => reg237 i
    | 238 => reg238 i
    | 239 => reg239 i
    | 240 => reg240 i
    | 241 => reg241 i
    | 272 => reg272 i
    | _ => none
  loop := fun f i => match f with
    | 4 => loop4 i
    | 5 => loop5 i
    | 7 => loop7 i
    | 8 => loop8 i
    | 9 => loop9 i
    | 11 => loop11 i
    | 12 => loop12 i
    | 13 => loop13 i
    | 14 => loop14 i
    | 15 => loop15 i
    | 16 => loop16 i
    | 17 => loop17 i
    | 18 => loop18 i
    | 19 => loop19 i
    | 20 => loop20 i
    | 23 => loop23 i
    | 25 => loop25 i
    | 26 => loop26 i
    | 27 => loop27 i
    | 28 => loop28 i
    | 30 => loop30 i
    | 31 => loop31 i
    | 33 => loop33 i
    | 34 => loop34 i
    | 40 => loop40 i
    | 42 => loop42 i
    | 43 => loop43 i
    | 45 => loop45 i
    | 46 => loop46 i
    | 50 => loop50 i
    | 54 => loop54 i
    | 60 => loop60 i
    | 61 => loop61 i
    | 66 => loop66 i
    | 67 => loop67 i
    | 68 => loop68 i
    | 70 => loop70 i
    | 73 => loop73 i
    | 75 => loop75 i
    | 76 => loop76 i
    | 77 => loop77 i
    | 78 => loop78 i
    | 79 => loop79 i
    | 82 => loop82 i
    | 84 => loop84 i
    | 86 => loop86 i
    | 87 => loop87 i
    | 89 => loop89 i
    | 92 => loop92 i
    | 93 => loop93 i
    | 97 => loop97 i
    | 98 => loop98 i
    | 109 => loop109 i
    | 110 => loop110 i
    | 113 => loop113 i
    | 114 => loop114 i
    | 116 => loop116 i
    | 117 => loop117 i
    | 121 => loop121 i
    | 122 => loop122 i
    | 123 => loop123 i
    | 124 => loop124 i
    | 125 => loop125 i
    | 129 => loop129 i
    | 132 => loop132 i
    | 133 => loop133 i
    | 134 => loop134 i
    | 137 => loop137 i
    | 140 => loop140 i
    | 141 => loop141 i
    | 142 => loop142 i
    | 143 => loop143 i
    | 146 => loop146 i
    | 149 => loop149 i
    | 153 => loop153 i
    | 158 => loop158 i
    | 159 => loop159 i
    | 160 => loop160 i
    | 161 => loop161 i
    | 164 => loop164 i
    | 165 => loop165 i
    | 166 => loop166 i
    | 169 => loop169 i
    | 170 => loop170 i
    | 173 => loop173 i
    | 174 => loop174 i
    | 175 => loop175 i
    | 181 => loop181 i
    | 186 => loop186 i
    | 189 => loop189 i
    | 191 => loop191 i
    | 192 => loop192 i
    | 194 => loop194 i
    | 203 => loop203 i
    | 208 => loop208 i
    | 210 => loop210 i
    | 211 => loop211 i
    | 212 => loop212 i
    | 213 => loop213 i
    | 215 => loop215 i
    | 216 => loop216 i
    | 217 => loop217 i
    | 218 => loop218 i
    | 223 => loop223 i
    | 231 => loop231 i
    | 236 => loop236 i
    | 241 => loop241 i
    | _ => none
  keep := fun f => match f with
    | 23 => true
    | 97 => true
    | 114 => true
    | 119 => true
    | 120 => true
    | 121 => true
    | 122 => true
    | 164 => true
    | 189 => true
    | _ => false
  all := fun f => match f with
    | _ => false
  draw := fun f i => match f with
    | 5 => draw5 i
    | 7 => draw7 i
    | 8 => draw8 i
    | 11 => draw11 i
    | 12 => draw12 i
    | 13 => draw13 i
    | 15 => draw15 i
    | 16 => draw16 i
    | 17 => draw17 i
    | 18 => draw18 i
    | 19 => draw19 i
    | 23 => draw23 i
    | 25 => draw25 i
    | 27 => draw27 i
    | 30 => draw30 i
    | 40 => draw40 i
    | 42 => draw42 i
    | 45 => draw45 i
    | 48 => draw48 i
    | 50 => draw50 i
    | 51 => draw51 i
    | 52 => draw52 i
    | 54 => draw54 i
    | 58 => draw58 i
    | 67 => draw67 i
    | 68 => draw68 i
    | 70 => draw70 i
    | 75 => draw75 i
    | 76 => draw76 i
    | 77 => draw77 i
    | 78 => draw78 i
    | 84 => draw84 i
    | 86 => draw86 i
    | 87 => draw87 i
    | 89 => draw89 i
    | 97 => draw97 i
    | 103 => draw103 i
    | 106 => draw106 i
    | 110 => draw110 i
    | 111 => draw111 i
    | 114 => draw114 i
    | 117 => draw117 i
    | 121 => draw121 i
    | 122 => draw122 i
    | 129 => draw129 i
    | 132 => draw132 i
    | 133 => draw133 i
    | 134 => draw134 i
    | 138 => draw138 i
    | 144 => draw144 i
    | 149 => draw149 i
    | 151 => draw151 i
    | 154 => draw154 i
    | 158 => draw158 i
    | 159 => draw159 i
    | 160 => draw160 i
    | 161 => draw161 i
    | 164 => draw164 i
    | 169 => draw169 i
    | 170 => draw170 i
    | 173 => draw173 i
    | 184 => draw184 i
    | 189 => draw189 i
    | 192 => draw192 i
    | 205 => draw205 i
    | 206 => draw206 i
    | 211 => draw211 i
    | 212 => draw212 i
    | 213 => draw213 i
    | 215 => draw215 i
    | 216 => draw216 i
    | 217 => draw217 i
    | 218 => draw218 i
    | 227 => draw227 i
    | 228 => draw228 i
    | 231 => draw231 i
    | 233 => draw233 i
    | 239 => draw239 i
    | _ => ⟨[], [], []⟩
  dok := fun f i => match f with
    | 5 => dok5 i
    | 7 => dok7 i
    | 8 => dok8 i
    | 11 => dok11 i
    | 12 => dok12 i
    | 13 => dok13 i
    | 15 => dok15 i
    | 16 => dok16 i
    | 17 => dok17 i
    | 18 => dok18 i
    | 19 => dok19 i
    | 23 => dok23 i
    | 25 => dok25 i
    | 27 => dok27 i
    | 30 => dok30 i
    | 40 => dok40 i
    | 42 => dok42 i
    | 45 => dok45 i
    | 48 => dok48 i
    | 50 => dok50 i
    | 51 => dok51 i
    | 52 => dok52 i
    | 54 => dok54 i
    | 58 => dok58 i
    | 67 => dok67 i
    | 68 => dok68 i
    | 70 => dok70 i
    | 75 => dok75 i
    | 76 => dok76 i
    | 77 => dok77 i
    | 78 => dok78 i
    | 84 => dok84 i
    | 86 => dok86 i
    | 87 => dok87 i
    | 89 => dok89 i
    | 97 => dok97 i
    | 103 => dok103 i
    | 106 => dok106 i
    | 110 => dok110 i
    | 111 => dok111 i
    | 114 => dok114 i
    | 117 => dok117 i
    | 121 => dok121 i
    | 122 => dok122 i
    | 129 => dok129 i
    | 132 => dok132 i
    | 133 => dok133 i
    | 134 => dok134 i
    | 138 => dok138 i
    | 144 => dok144 i
    | 149 => dok149 i
    | 151 => dok151 i
    | 154 => dok154 i
    | 158 => dok158 i
    | 159 => dok159 i
    | 160 => dok160 i
    | 161 => dok161 i
    | 164 => dok164 i
    | 169 => dok169 i
    | 170 => dok170 i
    | 173 => dok173 i
    | 184 => dok184 i
    | 189 => dok189 i
    | 192 => dok192 i
    | 205 => dok205 i
    | 206 => dok206 i
    | 211 => dok211 i
    | 212 => dok212 i
    | 213 => dok213 i
    | 215 => dok215 i
    | 216 => dok216 i
    | 217 => dok217 i
    | 218 => dok218 i
    | 227 => dok227 i
    | 228 => dok228 i
    | 231 => dok231 i
    | 233 => dok233 i
    | 239 => dok239 i
    | _ => false
  recov := fun f => match f with
    | 57 => true
    | 58 => true
    | _ => false
theorem a2 : ann.recov 2 = false ∧ ann.reg 2 = reg2 ∧ ann.keep 2 = false := ⟨rfl, rfl, rfl⟩
theorem a3 : ann.recov 3 = false ∧ ann.reg 3 = reg3 ∧ ann.keep 3 = false := ⟨rfl, rfl, rfl⟩
theorem a4 : ann.recov 4 = false ∧ ann.reg 4 = reg4 ∧ ann.loop 4 = loop4 ∧ ann.keep 4 = false := ⟨rfl, rfl, rfl, rfl⟩
theorem a5 : ann.recov 5 = false ∧ ann.draw 5 = draw5 ∧ ann.dok 5 = dok5 ∧ ann.reg 5 = reg5 ∧ ann.loop 5 = loop5 ∧ ann.keep 5 = false := ⟨rfl, rfl, rfl, rfl, rfl, rfl⟩
theorem a6 : ann.recov 6 = false ∧ ann.reg 6 = reg6 ∧ ann.keep 6 = false := ⟨rfl, rfl, rfl⟩
theorem a7 : ann.recov 7 = false ∧ ann.draw 7 = draw7 ∧ ann.dok 7 = dok7 ∧ ann.reg 7 = reg7 ∧ ann.loop 7 = loop7 ∧ ann.keep 7 = false := ⟨rfl, rfl, rfl, rfl, rfl, rfl⟩
theorem a8 : ann.recov 8 = false ∧ ann.draw 8 = draw8 ∧ ann.dok 8 = dok8 ∧ ann.reg 8 = reg8 ∧ ann.loop 8 = loop8 ∧ ann.keep 8 = false := ⟨rfl, rfl, rfl, rfl, rfl, rfl⟩
theorem a9 : ann.recov 9 = false ∧ ann.reg 9 = reg9 ∧ ann.loop 9 = loop9 ∧ ann.keep 9 = false := ⟨rfl, rfl, rfl, rfl⟩
theorem a10 : ann.recov 10 = false ∧ ann.reg 10 = reg10 ∧ ann.keep 10 = false := ⟨rfl, rfl, rfl⟩
theorem a11 : ann.recov 11 = false ∧ ann.draw 11 = draw11 ∧ ann.dok 11 = dok11 ∧ ann.reg 11 = reg11 ∧ ann.loop 11 = loop11 ∧ ann.keep 11 = false := ⟨rfl, rfl, rfl, rfl, rfl, rfl⟩
theorem a12 : ann.recov 12 = false ∧ ann.draw 12 = draw12 ∧ ann.dok 12 = dok12 ∧ ann.reg 12 = reg12 ∧ ann.loop 12 = loop12 ∧ ann.keep 12 = false := ⟨rfl, rfl, rfl, rfl, rfl, rfl⟩
theorem a13 : ann.recov 13 = false ∧ ann.draw 13 = draw13 ∧ ann.dok 13 = dok13 ∧ ann.reg 13 = reg13 ∧ ann.loop 13 = loop13 ∧ ann.keep 13 = false := ⟨rfl, rfl, rfl, rfl, rfl, rfl⟩
theorem a14 : ann.recov 14 = false ∧ ann.reg 14 = reg14 ∧ ann.loop 14 = loop14 ∧ ann.keep 14 = false := ⟨rfl, rfl, rfl, rfl⟩
theorem a15 : ann.recov 15 = false ∧ ann.draw 15 = draw15 ∧ ann.dok 15 = dok15 ∧ ann.reg 15 = reg15 ∧ ann.loop 15 = loop15 ∧ ann.keep 15 = false := ⟨rfl, rfl, rfl, rfl, rfl, rfl⟩
theorem a16 : ann.recov 16 = false ∧ ann.draw 16 = draw16 ∧ ann.dok 16 = dok16 ∧ ann.reg 16 = reg16 ∧ ann.loop 16 = loop16 ∧ ann.keep 16 = false := ⟨rfl, rfl, rfl, rfl, rfl, rfl⟩
theorem a17 : ann.recov 17 = false ∧ ann.draw 17 = draw17 ∧ ann.dok 17 = dok17 ∧ ann.reg 17 = reg17 ∧ ann.loop 17 = loop17 ∧ ann.keep 17 = false := ⟨rfl, rfl, rfl, rfl, rfl, rfl⟩
theorem a18 : ann.recov 18 = false ∧ ann.draw 18 = draw18 ∧ ann.dok 18 = dok18 ∧ ann.reg 18 = reg18 ∧ ann.loop 18 = loop18 ∧ ann.keep 18 = false := ⟨rfl, rfl, rfl, rfl, rfl, rfl⟩
theorem a19 : ann.recov 19 = false ∧ ann.draw 19 = draw19 ∧ ann.dok 19 = dok19 ∧ ann.reg 19 = reg19 ∧ ann.loop 19 = loop19 ∧ ann.keep 19 = false := ⟨rfl, rfl, rfl, rfl, rfl, rfl⟩
theorem a20 : ann.recov 20 = false ∧ ann.reg 20 = reg20 ∧ ann.loop 20 = loop20 ∧ ann.keep 20 = false := ⟨rfl, rfl, rfl, rfl⟩
theorem a21 : ann.recov 21 = false ∧ ann.reg 21 = reg21 ∧ ann.keep 21 = false := ⟨rfl, rfl, rfl⟩
theorem a22 : ann.recov 22 = false ∧ ann.reg 22 = reg22 ∧ ann.keep 22 = false := ⟨rfl, rfl, rfl⟩
theorem a23 : ann.recov 23 = false ∧ ann.draw 23 = draw23 ∧ ann.dok 23 = dok23 ∧ ann.reg 23 = reg23 ∧ ann.loop 23 = loop23 ∧ ann.keep 23 = true := ⟨rfl, rfl, rfl, rfl, rfl, rfl⟩
theorem a24 : ann.recov 24 = false ∧ ann.reg 24 = reg24 ∧ ann.keep 24 = false := ⟨rfl, rfl, rfl⟩
theorem a25 : ann.recov 25 = false ∧ ann.draw 25 = draw25 ∧ ann.dok 25 = dok25 ∧ ann.reg 25 = reg25 ∧ ann.loop 25 = loop25 ∧ ann.keep 25 = false := ⟨rfl, rfl, rfl, rfl, rfl, rfl⟩
theorem a26 : ann.recov 26 = false ∧ ann.reg 26 = reg26 ∧ ann.loop 26 = loop26 ∧ ann.keep 26 = false := ⟨rfl, rfl, rfl, rfl⟩
theorem a27 : ann.recov 27 = false ∧ ann.draw 27 = draw27 ∧ ann.dok 27 = dok27 ∧ ann.reg 27 = reg27 ∧ ann.loop 27 = loop27 ∧ ann.keep 27 = false := ⟨rfl, rfl, rfl, rfl, rfl, rfl⟩
theorem a28 : ann.recov 28 = false ∧ ann.reg 28 = reg28 ∧ ann.loop 28 = loop28 ∧ ann.keep 28 = false := ⟨rfl, rfl, rfl, rfl⟩
theorem a29 : ann.recov 29 = false ∧ ann.reg 29 = reg29 ∧ ann.keep 29 = false := ⟨rfl, rfl, rfl⟩
theorem a30 : ann.recov 30 = false ∧ ann.draw 30 = draw30 ∧ ann.dok 30 = dok30 ∧ ann.reg 30 = reg30 ∧ ann.loop 30 = loop30 ∧ ann.keep 30 = false := ⟨rfl, rfl, rfl, rfl, rfl, rfl⟩
theorem a31 : ann.recov 31 = false ∧ ann.reg 31 = reg31 ∧ ann.loop 31 = loop31 ∧ ann.keep 31 = false := ⟨rfl, rfl, rfl, rfl⟩
theorem a32 : ann.recov 32 = false ∧ ann.reg 32 = reg32 ∧ ann.keep 32 = false := ⟨rfl, rfl, rfl⟩
theorem a33 : ann.recov 33 = false ∧ ann.reg 33 = reg33 ∧ ann.loop 33 = loop33 ∧ ann.keep 33 = false := ⟨rfl, rfl, rfl, rfl⟩
theorem a34 : ann.recov 34 = false ∧ ann.reg 34 = reg34 ∧ ann.loop 34 = loop34 ∧ ann.keep 34 = false := ⟨rfl, rfl, rfl, rfl⟩
theorem a35 : ann.recov 35 = false ∧ ann.reg 35 = reg35 ∧ ann.keep 35 = false := ⟨rfl, rfl, rfl⟩
theorem a36 : ann.recov 36 = false ∧ ann.reg 36 = reg36 ∧ ann.keep 36 = false := ⟨rfl, rfl, rfl⟩
theorem a37 : ann.recov 37 = false ∧ ann.reg 37 = reg37 ∧ ann.keep 37 = false := ⟨rfl, rfl, rfl⟩
theorem a38 : ann.recov 38 = false ∧ ann.reg 38 = reg38 ∧ ann.keep 38 = false := ⟨rfl, rfl, rfl⟩
theorem a39 : ann.recov 39 = false ∧ ann.reg 39 = reg39 ∧ ann.keep 39 = false := ⟨rfl, rfl, rfl⟩
theorem a40 : ann.recov 40 = false ∧ ann.draw 40 = draw40 ∧ ann.dok 40 = dok40 ∧ ann.reg 40 = reg40 ∧ ann.loop 40 = loop40 ∧ ann.keep 40 = false := ⟨rfl, rfl, rfl, rfl, rfl, rfl⟩
theorem a41 : ann.recov 41 = false ∧ ann.reg 41 = reg41 ∧ ann.keep 41 = false := ⟨rfl, rfl, rfl⟩
theorem a42 : ann.recov 42 = false ∧ ann.draw 42 = draw42 ∧ ann.dok 42 = dok42 ∧ ann.reg 42 = reg42 ∧ ann.loop 42 = loop42 ∧ ann.keep 42 = false := ⟨rfl, rfl, rfl, rfl, rfl, rfl⟩
theorem a43 : ann.recov 43 = false ∧ ann.reg 43 = reg43 ∧ ann.loop 43 = loop43 ∧ ann.keep 43 = false := ⟨rfl, rfl, rfl, rfl⟩
theorem a44 : ann.recov 44 = false ∧ ann.reg 44 = reg44 ∧ ann.keep 44 = false := ⟨rfl, rfl, rfl⟩
theorem a45 : ann.recov 45 = false ∧ ann.draw 45 = draw45 ∧ ann.dok 45 = dok45 ∧ ann.reg 45 = reg45 ∧ ann.loop 45 = loop45 ∧ ann.keep 45 = false := ⟨rfl, rfl, rfl, rfl, rfl, rfl⟩
theorem a46 : ann.recov 46 = false ∧ ann.reg 46 = reg46 ∧ ann.loop 46 = loop46 ∧ ann.keep 46 = false := ⟨rfl, rfl, rfl, rfl⟩
theorem a47 : ann.recov 47 = false ∧ ann.reg 47 = reg47 ∧ ann.keep 47 = false := ⟨rfl, rfl, rfl⟩
theorem a48 : ann.recov 48 = false ∧ ann.draw 48 = draw48 ∧ ann.dok 48 = dok48 ∧ ann.reg 48 = reg48 ∧ ann.keep 48 = false := ⟨rfl, rfl, rfl, rfl, rfl⟩
theorem a49 : ann.recov 49 = false ∧ ann.reg 49 = reg49 ∧ ann.keep 49 = false := ⟨rfl, rfl, rfl⟩
theorem a50 : ann.recov 50 = false ∧ ann.draw 50 = draw50 ∧ ann.dok 50 = dok50 ∧ ann.reg 50 = reg50 ∧ ann.loop 50 = loop50 ∧ ann.keep 50 = false := ⟨rfl, rfl, rfl, rfl, rfl, rfl⟩
theorem a51 : ann.recov 51 = false ∧ ann.draw 51 = draw51 ∧ ann.dok 51 = dok51 ∧ ann.reg 51 = reg51 ∧ ann.keep 51 = false := ⟨rfl, rfl, rfl, rfl, rfl⟩
theorem a52 : ann.recov 52 = false ∧ ann.draw 52 = draw52 ∧ ann.dok 52 = dok52 ∧ ann.reg 52 = reg52 ∧ ann.keep 52 = false := ⟨rfl, rfl, rfl, rfl, rfl⟩
theorem a53 : ann.recov 53 = false ∧ ann.reg 53 = reg53 ∧ ann.keep 53 = false := ⟨rfl, rfl, rfl⟩
theorem a54 : ann.recov 54 = false ∧ ann.draw 54 = draw54 ∧ ann.dok 54 = dok54 ∧ ann.reg 54 = reg54 ∧ ann.loop 54 = loop54 ∧ ann.keep 54 = false := ⟨rfl, rfl, rfl, rfl, rfl, rfl⟩
theorem a55 : ann.recov 55 = false ∧ ann.reg 55 = reg55 ∧ ann.keep 55 = false := ⟨rfl, rfl, rfl⟩
theorem a56 : ann.recov 56 = false ∧ ann.reg 56 = reg56 ∧ ann.keep 56 = false := ⟨rfl, rfl, rfl⟩
theorem a57 : ann.recov 57 = true ∧ ann.reg 57 = reg57 ∧ ann.keep 57 = false := ⟨rfl, rfl, rfl⟩
theorem a58 : ann.recov 58 = true ∧ ann.draw 58 = draw58 ∧ ann.dok 58 = dok58 ∧ ann.reg 58 = reg58 ∧ ann.keep 58 = false := ⟨rfl, rfl, rfl, rfl, rfl⟩
theorem a59 : ann.recov 59 = false ∧ ann.reg 59 = reg59 ∧ ann.keep 59 = false := ⟨rfl, rfl, rfl⟩
theorem a60 : ann.recov 60 = false ∧ ann.reg 60 = reg60 ∧ ann.loop 60 = loop60 ∧ ann.keep 60 = false := ⟨rfl, rfl, rfl, rfl⟩
theorem a61 : ann.recov 61 = false ∧ ann.reg 61 = reg61 ∧ ann.loop 61 = loop61 ∧ ann.keep 61 = false := ⟨rfl, rfl, rfl, rfl⟩
theorem a62 : ann.recov 62 = false ∧ ann.reg 62 = reg62 ∧ ann.keep 62 = false := ⟨rfl, rfl, rfl⟩
theorem a63 : ann.recov 63 = false ∧ ann.reg 63 = reg63 ∧ ann.keep 63 = false := ⟨rfl, rfl, rfl⟩
theorem a64 : ann.recov 64 = false ∧ ann.reg 64 = reg64 ∧ ann.keep 64 = false := ⟨rfl, rfl, rfl⟩
theorem a65 : ann.recov 65 = false ∧ ann.reg 65 = reg65 ∧ ann.keep 65 = false := ⟨rfl, rfl, rfl⟩
theorem a66 : ann.recov 66 = false ∧ ann.reg 66 = reg66 ∧ ann.loop 66 = loop66 ∧ ann.keep 66 = false := ⟨rfl, rfl, rfl, rfl⟩
theorem a67 : ann.recov 67 = false ∧ ann.draw 67 = draw67 ∧ ann.dok 67 = dok67 ∧ ann.reg 67 = reg67 ∧ ann.loop 67 = loop67 ∧ ann.keep 67 = false := ⟨rfl, rfl, rfl, rfl, rfl, rfl⟩
theorem a68 : ann.recov 68 = false ∧ ann.draw 68 = draw68 ∧ ann.dok 68 = dok68 ∧ ann.reg 68 = reg68 ∧ ann.loop 68 = loop68 ∧ ann.keep 68 = false := ⟨rfl, rfl, rfl, rfl, rfl, rfl⟩
theorem a69 : ann.recov 69 = false ∧ ann.reg 69 = reg69 ∧ ann.keep 69 = false := ⟨rfl, rfl, rfl⟩
theorem a70 : ann.recov 70 = false ∧ ann.draw 70 = draw70 ∧ ann.dok 70 = dok70 ∧ ann.reg 70 = reg70 ∧ ann.loop 70 = loop70 ∧ ann.keep 70 = false := ⟨rfl, rfl, rfl, rfl, rfl, rfl⟩
theorem a71 : ann.recov 71 = false ∧ ann.reg 71 = reg71 ∧ ann.keep 71 = false := ⟨rfl, rfl, rfl⟩
theorem a72 : ann.recov 72 = false ∧ ann.reg 72 = reg72 ∧ ann.keep 72 = false := ⟨rfl, rfl, rfl⟩
theorem a73 : ann.recov 73 = false ∧ ann.reg 73 = reg73 ∧ ann.loop 73 = loop73 ∧ ann.keep 73 = false := ⟨rfl, rfl, rfl, rfl⟩
theorem a74 : ann.recov 74 = false ∧ ann.reg 74 = reg74 ∧ ann.keep 74 = false := ⟨rfl, rfl, rfl⟩
theorem a75 : ann.recov 75 = false ∧ ann.draw 75 = draw75 ∧ ann.dok 75 = dok75 ∧ ann.reg 75 = reg75 ∧ ann.loop 75 = loop75 ∧ ann.keep 75 = false := ⟨rfl, rfl, rfl, rfl, rfl, rfl⟩
theorem a76 : ann.recov 76 = false ∧ ann.draw 76 = draw76 ∧ ann.dok 76 = dok76 ∧ ann.reg 76 = reg76 ∧ ann.loop 76 = loop76 ∧ ann.keep 76 = false := ⟨rfl, rfl, rfl, rfl, rfl, rfl⟩
theorem a77 : ann.recov 77 = false ∧ ann.draw 77 = draw77 ∧ ann.dok 77 = dok77 ∧ ann.reg 77 = reg77 ∧ ann.loop 77 = loop77 ∧ ann.keep 77 = false := ⟨rfl, rfl, rfl, rfl, rfl, rfl⟩
theorem a78 : ann.recov 78 = false ∧ ann.draw 78 = draw78 ∧ ann.dok 78 = dok78 ∧ ann.reg 78 = reg78 ∧ ann.loop 78 = loop78 ∧ ann.keep 78 = false := ⟨rfl, rfl, rfl, rfl, rfl, rfl⟩
theorem a79 : ann.recov 79 = false ∧ ann.reg 79 = reg79 ∧ ann.loop 79 = loop79 ∧ ann.keep 79 = false := ⟨rfl, rfl, rfl, rfl⟩
theorem a80 : ann.recov 80 = false ∧ ann.reg 80 = reg80 ∧ ann.keep 80 = false := ⟨rfl, rfl, rfl⟩
theorem a81 : ann.recov 81 = false ∧ ann.reg 81 = reg81 ∧ ann.keep 81 = false := ⟨rfl, rfl, rfl⟩
theorem a82 : ann.recov 82 = false ∧ ann.reg 82 = reg82 ∧ ann.loop 82 = loop82 ∧ ann.keep 82 = false := ⟨rfl, rfl, rfl, rfl⟩
theorem a83 : ann.recov 83 = false ∧ ann.reg 83 = reg83 ∧ ann.keep 83 = false := ⟨rfl, rfl, rfl⟩
theorem a84 : ann.recov 84 = false ∧ ann.draw 84 = draw84 ∧ ann.dok 84 = dok84 ∧ ann.reg 84 = reg84 ∧ ann.loop 84 = loop84 ∧ ann.keep 84 = false := ⟨rfl, rfl, rfl, rfl, rfl, rfl⟩
theorem a85 : ann.recov 85 = false ∧ ann.reg 85 = reg85 ∧ ann.keep 85 = false := ⟨rfl, rfl, rfl⟩
theorem a86 : ann.recov 86 = false ∧ ann.draw 86 = draw86 ∧ ann.dok 86 = dok86 ∧ ann.reg 86 = reg86 ∧ ann.loop 86 = loop86 ∧ ann.keep 86 = false := ⟨rfl, rfl, rfl, rfl, rfl, rfl⟩
theorem a87 : ann.recov 87 = false ∧ ann.draw 87 = draw87 ∧ ann.dok 87 = dok87 ∧ ann.reg 87 = reg87 ∧ ann.loop 87 = loop87 ∧ ann.keep 87 = false := ⟨rfl, rfl, rfl, rfl, rfl, rfl⟩
theorem a88 : ann.recov 88 = false ∧ ann.reg 88 = reg88 ∧ ann.keep 88 = false := ⟨rfl, rfl, rfl⟩
theorem a89 : ann.recov 89 = false ∧ ann.draw 89 = draw89 ∧ ann.dok 89 = dok89 ∧ ann.reg 89 = reg89 ∧ ann.loop 89 = loop89 ∧ ann.keep 89 = false := ⟨rfl, rfl, rfl, rfl, rfl, rfl⟩
theorem a90 : ann.recov 90 = false ∧ ann.reg 90 = reg90 ∧ ann.keep 90 = false := ⟨rfl, rfl, rfl⟩
theorem a91 : ann.recov 91 = false ∧ ann.reg 91 = reg91 ∧ ann.keep 91 = false := ⟨rfl, rfl, rfl⟩
theorem a92 : ann.recov 92 = false ∧ ann.reg 92 = reg92 ∧ ann.loop 92 = loop92 ∧ ann.keep 92 = false := ⟨rfl, rfl, rfl, rfl⟩
theorem a93 : ann.recov 93 = false ∧ ann.reg 93 = reg93 ∧ ann.loop 93 = loop93 ∧ ann.keep 93 = false := ⟨rfl, rfl, rfl, rfl⟩
theorem a95 : ann.recov 95 = false ∧ ann.reg 95 = reg95 ∧ ann.keep 95 = false := ⟨rfl, rfl, rfl⟩
theorem a96 : ann.recov 96 = false ∧ ann.reg 96 = reg96 ∧ ann.keep 96 = false := ⟨rfl, rfl, rfl⟩
theorem a97 : ann.recov 97 = false ∧ ann.draw 97 = draw97 ∧ ann.dok 97 = dok97 ∧ ann.reg 97 = reg97 ∧ ann.loop 97 = loop97 ∧ ann.keep 97 = true := ⟨rfl, rfl, rfl, rfl, rfl, rfl⟩
theorem a98 : ann.recov 98 = false ∧ ann.reg 98 = reg98 ∧ ann.loop 98 = loop98 ∧ ann.keep 98 = false := ⟨rfl, rfl, rfl, rfl⟩
theorem a99 : ann.recov 99 = false ∧ ann.reg 99 = reg99 ∧ ann.keep 99 = false := ⟨rfl, rfl, rfl⟩
theorem a100 : ann.recov 100 = false ∧ ann.reg 100 = reg100 ∧ ann.keep 100 = false := ⟨rfl, rfl, rfl⟩
theorem a101 : ann.recov 101 = false ∧ ann.reg 101 = reg101 ∧ ann.keep 101 = false := ⟨rfl, rfl, rfl⟩
theorem a102 : ann.recov 102 = false ∧ ann.reg 102 = reg102 ∧ ann.keep 102 = false := ⟨rfl, rfl, rfl⟩
theorem a103 : ann.recov 103 = false ∧ ann.draw 103 = draw103 ∧ ann.dok 103 = dok103 ∧ ann.reg 103 = reg103 ∧ ann.keep 103 = false := ⟨rfl, rfl, rfl, rfl, rfl⟩
theorem a104 : ann.recov 104 = false ∧ ann.reg 104 = reg104 ∧ ann.keep 104 = false := ⟨rfl, rfl, rfl⟩
theorem a105 : ann.recov 105 = false ∧ ann.reg 105 = reg105 ∧ ann.keep 105 = false := ⟨rfl, rfl, rfl⟩
theorem a106 : ann.recov 106 = false ∧ ann.draw 106 = draw106 ∧ ann.dok 106 = dok106 ∧ ann.reg 106 = reg106 ∧ ann.keep 106 = false := ⟨rfl, rfl, rfl, rfl, rfl⟩
theorem a107 : ann.recov 107 = false ∧ ann.reg 107 = reg107 ∧ ann.keep 107 = false := ⟨rfl, rfl, rfl⟩
theorem a108 : ann.recov 108 = false ∧ ann.reg 108 = reg108 ∧ ann.keep 108 = false := ⟨rfl, rfl, rfl⟩
theorem a109 : ann.recov 109 = false ∧ ann.reg 109 = reg109 ∧ ann.loop 109 = loop109 ∧ ann.keep 109 = false := ⟨rfl, rfl, rfl, rfl⟩
theorem a110 : ann.recov 110 = false ∧ ann.draw 110 = draw110 ∧ ann.dok 110 = dok110 ∧ ann.reg 110 = reg110 ∧ ann.loop 110 = loop110 ∧ ann.keep 110 = false := ⟨rfl, rfl, rfl, rfl, rfl, rfl⟩
theorem a111 : ann.recov 111 = false ∧ ann.draw 111 = draw111 ∧ ann.dok 111 = dok111 ∧ ann.reg 111 = reg111 ∧ ann.keep 111 = false := ⟨rfl, rfl, rfl, rfl, rfl⟩
theorem a112 : ann.recov 112 = false ∧ ann.reg 112 = reg112 ∧ ann.keep 112 = false := ⟨rfl, rfl, rfl⟩
theorem a113 : ann.recov 113 = false ∧ ann.reg 113 = reg113 ∧ ann.loop 113 = loop113 ∧ ann.keep 113 = false := ⟨rfl, rfl, rfl, rfl⟩
theorem a114 : ann.recov 114 = false ∧ ann.draw 114 = draw114 ∧ ann.dok 114 = dok114 ∧ ann.reg 114 = reg114 ∧ ann.loop 114 = loop114 ∧ ann.keep 114 = true := ⟨rfl, rfl, rfl, rfl, rfl, rfl⟩
theorem a115 : ann.recov 115 = false ∧ ann.reg 115 = reg115 ∧ ann.keep 115 = false := ⟨rfl, rfl, rfl⟩
theorem a116 : ann.recov 116 = false ∧ ann.reg 116 = reg116 ∧ ann.loop 116 = loop116 ∧ ann.keep 116 = false := ⟨rfl, rfl, rfl, rfl⟩
theorem a117 : ann.recov 117 = false ∧ ann.draw 117 = draw117 ∧ ann.dok 117 = dok117 ∧ ann.reg 117 = reg117 ∧ ann.loop 117 = loop117 ∧ ann.keep 117 = false := ⟨rfl, rfl, rfl, rfl, rfl, rfl⟩
theorem a118 : ann.recov 118 = false ∧ ann.reg 118 = reg118 ∧ ann.keep 118 = false := ⟨rfl, rfl, rfl⟩
theorem a119 : ann.recov 119 = false ∧ ann.reg 119 = reg119 ∧ ann.keep 119 = true := ⟨rfl, rfl, rfl⟩
theorem a120 : ann.recov 120 = false ∧ ann.reg 120 = reg120 ∧ ann.keep 120 = true := ⟨rfl, rfl, rfl⟩
theorem a121 : ann.recov 121 = false ∧ ann.draw 121 = draw121 ∧ ann.dok 121 = dok121 ∧ ann.reg 121 = reg121 ∧ ann.loop 121 = loop121 ∧ ann.keep 121 = true := ⟨rfl, rfl, rfl, rfl, rfl, rfl⟩
theorem a122 : ann.recov 122 = false ∧ ann.draw 122 = draw122 ∧ ann.dok 122 = dok122 ∧ ann.reg 122 = reg122 ∧ ann.loop 122 = loop122 ∧ ann.keep 122 = true := ⟨rfl, rfl, rfl, rfl, rfl, rfl⟩
theorem a123 : ann.recov 123 = false ∧ ann.reg 123 = reg123 ∧ ann.loop 123 = loop123 ∧ ann.keep 123 = false := ⟨rfl, rfl, rfl, rfl⟩
theorem a124 : ann.recov 124 = false ∧ ann.reg 124 = reg124 ∧ ann.loop 124 = loop124 ∧ ann.keep 124 = false := ⟨rfl, rfl, rfl, rfl⟩
theorem a125 : ann.recov 125 = false ∧ ann.reg 125 = reg125 ∧ ann.loop 125 = loop125 ∧ ann.keep 125 = false := ⟨rfl, rfl, rfl, rfl⟩
theorem a126 : ann.recov 126 = false ∧ ann.reg 126 = reg126 ∧ ann.keep 126 = false := ⟨rfl, rfl, rfl⟩
theorem a127 : ann.recov 127 = false ∧ ann.reg 127 = reg127 ∧ ann.keep 127 = false := ⟨rfl, rfl, rfl⟩
theorem a128 : ann.recov 128 = false ∧ ann.reg 128 = reg128 ∧ ann.keep 128 = false := ⟨rfl, rfl, rfl⟩
theorem a129 : ann.recov 129 = false ∧ ann.draw 129 = draw129 ∧ ann.dok 129 = dok129 ∧ ann.reg 129 = reg129 ∧ ann.loop 129 = loop129 ∧ ann.keep 129 = false := ⟨rfl, rfl, rfl, rfl, rfl, rfl⟩
theorem a130 : ann.recov 130 = false ∧ ann.reg 130 = reg130 ∧ ann.keep 130 = false := ⟨rfl, rfl, rfl⟩
theorem a131 : ann.recov 131 = false ∧ ann.reg 131 = reg131 ∧ ann.keep 131 = false := ⟨rfl, rfl, rfl⟩
theorem a132 : ann.recov 132 = false ∧ ann.draw 132 = draw132 ∧ ann.dok 132 = dok132 ∧ ann.reg 132 = reg132 ∧ ann.loop 132 = loop132 ∧ ann.keep 132 = false := ⟨rfl, rfl, rfl, rfl, rfl, rfl⟩
theorem a133 : ann.recov 133 = false ∧ ann.draw 133 = draw133 ∧ ann.dok 133 = dok133 ∧ ann.reg 133 = reg133 ∧ ann.loop 133 = loop133 ∧ ann.keep 133 = false := ⟨rfl, rfl, rfl, rfl, rfl, rfl⟩
theorem a134 : ann.recov 134 = false ∧ ann.draw 134 = draw134 ∧ ann.dok 134 = dok134 ∧ ann.reg 134 = reg134 ∧ ann.loop 134 = loop134 ∧ ann.keep 134 = false := ⟨rfl, rfl, rfl, rfl, rfl, rfl⟩
theorem a136 : ann.recov 136 = false ∧ ann.reg 136 = reg136 ∧ ann.keep 136 = false := ⟨rfl, rfl, rfl⟩
theorem a137 : ann.recov 137 = false ∧ ann.reg 137 = reg137 ∧ ann.loop 137 = loop137 ∧ ann.keep 137 = false := ⟨rfl, rfl, rfl, rfl⟩
theorem a138 : ann.recov 138 = false ∧ ann.draw 138 = draw138 ∧ ann.dok 138 = dok138 ∧ ann.reg 138 = reg138 ∧ ann.keep 138 = false := ⟨rfl, rfl, rfl, rfl, rfl⟩
theorem a139 : ann.recov 139 = false ∧ ann.reg 139 = reg139 ∧ ann.keep 139 = false := ⟨rfl, rfl, rfl⟩
theorem a140 : ann.recov 140 = false ∧ ann.reg 140 = reg140 ∧ ann.loop 140 = loop140 ∧ ann.keep 140 = false := ⟨rfl, rfl, rfl, rfl⟩
theorem a141 : ann.recov 141 = false ∧ ann.reg 141 = reg141 ∧ ann.loop 141 = loop141 ∧ ann.keep 141 = false := ⟨rfl, rfl, rfl, rfl⟩
theorem a142 : ann.recov 142 = false ∧ ann.reg 142 = reg142 ∧ ann.loop 142 = loop142 ∧ ann.keep 142 = false := ⟨rfl, rfl, rfl, rfl⟩
theorem a143 : ann.recov 143 = false ∧ ann.reg 143 = reg143 ∧ ann.loop 143 = loop143 ∧ ann.keep 143 = false := ⟨rfl, rfl, rfl, rfl⟩
theorem a144 : ann.recov 144 = false ∧ ann.draw 144 = draw144 ∧ ann.dok 144 = dok144 ∧ ann.reg 144 = reg144 ∧ ann.keep 144 = false := ⟨rfl, rfl, rfl, rfl, rfl⟩
theorem a145 : ann.recov 145 = false ∧ ann.reg 145 = reg145 ∧ ann.keep 145 = false := ⟨rfl, rfl, rfl⟩
theorem a146 : ann.recov 146 = false ∧ ann.reg 146 = reg146 ∧ ann.loop 146 = loop146 ∧ ann.keep 146 = false := ⟨rfl, rfl, rfl, rfl⟩
theorem a147 : ann.recov 147 = false ∧ ann.reg 147 = reg147 ∧ ann.keep 147 = false := ⟨rfl, rfl, rfl⟩
theorem a148 : ann.recov 148 = false ∧ ann.reg 148 = reg148 ∧ ann.keep 148 = false := ⟨rfl, rfl, rfl⟩
theorem a149 : ann.recov 149 = false ∧ ann.draw 149 = draw149 ∧ ann.dok 149 = dok149 ∧ ann.reg 149 = reg149 ∧ ann.loop 149 = loop149 ∧ ann.keep 149 = false := ⟨rfl, rfl, rfl, rfl, rfl, rfl⟩
theorem a150 : ann.recov 150 = false ∧ ann.reg 150 = reg150 ∧ ann.keep 150 = false := ⟨rfl, rfl, rfl⟩
theorem a151 : ann.recov 151 = false ∧ ann.draw 151 = draw151 ∧ ann.dok 151 = dok151 ∧ ann.reg 151 = reg151 ∧ ann.keep 151 = false := ⟨rfl, rfl, rfl, rfl, rfl⟩
theorem a152 : ann.recov 152 = false ∧ ann.reg 152 = reg152 ∧ ann.keep 152 = false := ⟨rfl, rfl, rfl⟩
theorem a153 : ann.recov 153 = false ∧ ann.reg 153 = reg153 ∧ ann.loop 153 = loop153 ∧ ann.keep 153 = false := ⟨rfl, rfl, rfl, rfl⟩
theorem a154 : ann.recov 154 = false ∧ ann.draw 154 = draw154 ∧ ann.dok 154 = dok154 ∧ ann.reg 154 = reg154 ∧ ann.keep 154 = false := ⟨rfl, rfl, rfl, rfl, rfl⟩
theorem a155 : ann.recov 155 = false ∧ ann.reg 155 = reg155 ∧ ann.keep 155 = false := ⟨rfl, rfl, rfl⟩
theorem a156 : ann.recov 156 = false ∧ ann.reg 156 = reg156 ∧ ann.keep 156 = false := ⟨rfl, rfl, rfl⟩
theorem a157 : ann.recov 157 = false ∧ ann.reg 157 = reg157 ∧ ann.keep 157 = false := ⟨rfl, rfl, rfl⟩
theorem a158 : ann.recov 158 = false ∧ ann.draw 158 = draw158 ∧ ann.dok 158 = dok158 ∧ ann.reg 158 = reg158 ∧ ann.loop 158 = loop158 ∧ ann.keep 158 = false := ⟨rfl, rfl, rfl, rfl, rfl, rfl⟩
theorem a159 : ann.recov 159 = false ∧ ann.draw 159 = draw159 ∧ ann.dok 159 = dok159 ∧ ann.reg 159 = reg159 ∧ ann.loop 159 = loop159 ∧ ann.keep 159 = false := ⟨rfl, rfl, rfl, rfl, rfl, rfl⟩
theorem a160 : ann.recov 160 = false ∧ ann.draw 160 = draw160 ∧ ann.dok 160 = dok160 ∧ ann.reg 160 = reg160 ∧ ann.loop 160 = loop160 ∧ ann.keep 160 = false := ⟨rfl, rfl, rfl, rfl, rfl, rfl⟩
theorem a161 : ann.recov 161 = false ∧ ann.draw 161 = draw161 ∧ ann.dok 161 = dok161 ∧ ann.reg 161 = reg161 ∧ ann.loop 161 = loop161 ∧ ann.keep 161 = false := ⟨rfl, rfl, rfl, rfl, rfl, rfl⟩
theorem a162 : ann.recov 162 = false ∧ ann.reg 162 = reg162 ∧ ann.keep 162 = false := ⟨rfl, rfl, rfl⟩
theorem a163 : ann.recov 163 = false ∧ ann.reg 163 = reg163 ∧ ann.keep 163 = false := ⟨rfl, rfl, rfl⟩
theorem a164 : ann.recov 164 = false ∧ ann.draw 164 = draw164 ∧ ann.dok 164 = dok164 ∧ ann.reg 164 = reg164 ∧ ann.loop 164 = loop164 ∧ ann.keep 164 = true := ⟨rfl, rfl, rfl, rfl, rfl, rfl⟩
theorem a165 : ann.recov 165 = false ∧ ann.reg 165 = reg165 ∧ ann.loop 165 = loop165 ∧ ann.keep 165 = false := ⟨rfl, rfl, rfl, rfl⟩
theorem a166 : ann.recov 166 = false ∧ ann.reg 166 = reg166 ∧ ann.loop 166 = loop166 ∧ ann.keep 166 = false := ⟨rfl, rfl, rfl, rfl⟩
theorem a167 : ann.recov 167 = false ∧ ann.reg 167 = reg167 ∧ ann.keep 167 = false := ⟨rfl, rfl, rfl⟩
theorem a168 : ann.recov 168 = false ∧ ann.reg 168 = reg168 ∧ ann.keep 168 = false := ⟨rfl, rfl, rfl⟩
theorem a169 : ann.recov 169 = false ∧ ann.draw 169 = draw169 ∧ ann.dok 169 = dok169 ∧ ann.reg 169 = reg169 ∧ ann.loop 169 = loop169 ∧ ann.keep 169 = false := ⟨rfl, rfl, rfl, rfl, rfl, rfl⟩
theorem a170 : ann.recov 170 = false ∧ ann.draw 170 = draw170 ∧ ann.dok 170 = dok170 ∧ ann.reg 170 = reg170 ∧ ann.loop 170 = loop170 ∧ ann.keep 170 = false := ⟨rfl, rfl, rfl, rfl, rfl, rfl⟩
theorem a171 : ann.recov 171 = false ∧ ann.reg 171 = reg171 ∧ ann.keep 171 = false := ⟨rfl, rfl, rfl⟩
theorem a172 : ann.recov 172 = false ∧ ann.reg 172 = reg172 ∧ ann.keep 172 = false := ⟨rfl, rfl, rfl⟩
theorem a173 : ann.recov 173 = false ∧ ann.draw 173 = draw173 ∧ ann.dok 173 = dok173 ∧ ann.reg 173 = reg173 ∧ ann.loop 173 = loop173 ∧ ann.keep 173 = false := ⟨rfl, rfl, rfl, rfl, rfl, rfl⟩
theorem a174 : ann.recov 174 = false ∧ ann.reg 174 = reg174 ∧ ann.loop 174 = loop174 ∧ ann.keep 174 = false := ⟨rfl, rfl, rfl, rfl⟩
theorem a175 : ann.recov 175 = false ∧ ann.reg 175 = reg175 ∧ ann.loop 175 = loop175 ∧ ann.keep 175 = false := ⟨rfl, rfl, rfl, rfl⟩
theorem a176 : ann.recov 176 = false ∧ ann.reg 176 = reg176 ∧ ann.keep 176 = false := ⟨rfl, rfl, rfl⟩
theorem a177 : ann.recov 177 = false ∧ ann.reg 177 = reg177 ∧ ann.keep 177 = false := ⟨rfl, rfl, rfl⟩
theorem a178 : ann.recov 178 = false ∧ ann.reg 178 = reg178 ∧ ann.keep 178 = false := ⟨rfl, rfl, rfl⟩
theorem a179 : ann.recov 179 = false ∧ ann.reg 179 = reg179 ∧ ann.keep 179 = false := ⟨rfl, rfl, rfl⟩
theorem a180 : ann.recov 180 = false ∧ ann.reg 180 = reg180 ∧ ann.keep 180 = false := ⟨rfl, rfl, rfl⟩
theorem a181 : ann.recov 181 = false ∧ ann.reg 181 = reg181 ∧ ann.loop 181 = loop181 ∧ ann.keep 181 = false := ⟨rfl, rfl, rfl, rfl⟩
theorem a182 : ann.recov 182 = false ∧ ann.reg 182 = reg182 ∧ ann.keep 182 = false := ⟨rfl, rfl, rfl⟩
theorem a183 : ann.recov 183 = false ∧ ann.reg 183 = reg183 ∧ ann.keep 183 = false := ⟨rfl, rfl, rfl⟩
theorem a184 : ann.recov 184 = false ∧ ann.draw 184 = draw184 ∧ ann.dok 184 = dok184 ∧ ann.reg 184 = reg184 ∧ ann.keep 184 = false := ⟨rfl, rfl, rfl, rfl, rfl⟩
theorem a185 : ann.recov 185 = false ∧ ann.reg 185 = reg185 ∧ ann.keep 185 = false := ⟨rfl, rfl, rfl⟩
theorem a186 : ann.recov 186 = false ∧ ann.reg 186 = reg186 ∧ ann.loop 186 = loop186 ∧ ann.keep 186 = false := ⟨rfl, rfl, rfl, rfl⟩
theorem a187 : ann.recov 187 = false ∧ ann.reg 187 = reg187 ∧ ann.keep 187 = false := ⟨rfl, rfl, rfl⟩
theorem a188 : ann.recov 188 = false ∧ ann.reg 188 = reg188 ∧ ann.keep 188 = false := ⟨rfl, rfl, rfl⟩
theorem a189 : ann.recov 189 = false ∧ ann.draw 189 = draw189 ∧ ann.dok 189 = dok189 ∧ ann.reg 189 = reg189 ∧ ann.loop 189 = loop189 ∧ ann.keep 189 = true := ⟨rfl, rfl, rfl, rfl, rfl, rfl⟩
theorem a190 : ann.recov 190 = false ∧ ann.reg 190 = reg190 ∧ ann.keep 190 = false := ⟨rfl, rfl, rfl⟩
theorem a191 : ann.recov 191 = false ∧ ann.reg 191 = reg191 ∧ ann.loop 191 = loop191 ∧ ann.keep 191 = false := ⟨rfl, rfl, rfl, rfl⟩
theorem a192 : ann.recov 192 = false ∧ ann.draw 192 = draw192 ∧ ann.dok 192 = dok192 ∧ ann.reg 192 = reg192 ∧ ann.loop 192 = loop192 ∧ ann.keep 192 = false := ⟨rfl, rfl, rfl, rfl, rfl, rfl⟩
theorem a193 : ann.recov 193 = false ∧ ann.reg 193 = reg193 ∧ ann.keep 193 = false := ⟨rfl, rfl, rfl⟩
theorem a194 : ann.recov 194 = false ∧ ann.reg 194 = reg194 ∧ ann.loop 194 = loop194 ∧ ann.keep 194 = false := ⟨rfl, rfl, rfl, rfl⟩
theorem a195 : ann.recov 195 = false ∧ ann.reg 195 = reg195 ∧ ann.keep 195 = false := ⟨rfl, rfl, rfl⟩
theorem a196 : ann.recov 196 = false ∧ ann.reg 196 = reg196 ∧ ann.keep 196 = false := ⟨rfl, rfl, rfl⟩
theorem a197 : ann.recov 197 = false ∧ ann.reg 197 = reg197 ∧ ann.keep 197 = false := ⟨rfl, rfl, rfl⟩
theorem a198 : ann.recov 198 = false ∧ ann.reg 198 = reg198 ∧ ann.keep 198 = false := ⟨rfl, rfl, rfl⟩
theorem a199 : ann.recov 199 = false ∧ ann.reg 199 = reg199 ∧ ann.keep 199 = false := ⟨rfl, rfl, rfl⟩
theorem a200 : ann.recov 200 = false ∧ ann.reg 200 = reg200 ∧ ann.keep 200 = false := ⟨rfl, rfl, rfl⟩
theorem a202 : ann.recov 202 = false ∧ ann.reg 202 = reg202 ∧ ann.keep 202 = false := ⟨rfl, rfl, rfl⟩
theorem a203 : ann.recov 203 = false ∧ ann.reg 203 = reg203 ∧ ann.loop 203 = loop203 ∧ ann.keep 203 = false := ⟨rfl, rfl, rfl, rfl⟩
theorem a204 : ann.recov 204 = false ∧ ann.reg 204 = reg204 ∧ ann.keep 204 = false := ⟨rfl, rfl, rfl⟩
theorem a206 : ann.recov 206 = false ∧ ann.draw 206 = draw206 ∧ ann.dok 206 = dok206 ∧ ann.reg 206 = reg206 ∧ ann.keep 206 = false := ⟨rfl, rfl, rfl, rfl, rfl⟩
theorem a207 : ann.recov 207 = false ∧ ann.reg 207 = reg207 ∧ ann.keep 207 = false := ⟨rfl, rfl, rfl⟩
theorem a208 : ann.recov 208 = false ∧ ann.reg 208 = reg208 ∧ ann.loop 208 = loop208 ∧ ann.keep 208 = false := ⟨rfl, rfl, rfl, rfl⟩
theorem a209 : ann.recov 209 = false ∧ ann.reg 209 = reg209 ∧ ann.keep 209 = false := ⟨rfl, rfl, rfl⟩
theorem a210 : ann.recov 210 = false ∧ ann.reg 210 = reg210 ∧ ann.loop 210 = loop210 ∧ ann.keep 210 = false := ⟨rfl, rfl, rfl, rfl⟩
theorem a211 : ann.recov 211 = false ∧ ann.draw 211 = draw211 ∧ ann.dok 211 = dok211 ∧ ann.reg 211 = reg211 ∧ ann.loop 211 = loop211 ∧ ann.keep 211 = false := ⟨rfl, rfl, rfl, rfl, rfl, rfl⟩
theorem a212 : ann.recov 212 = false ∧ ann.draw 212 = draw212 ∧ ann.dok 212 = dok212 ∧ ann.reg 212 = reg212 ∧ ann.loop 212 = loop212 ∧ ann.keep 212 = false := ⟨rfl, rfl, rfl, rfl, rfl, rfl⟩
theorem a213 : ann.recov 213 = false ∧ ann.draw 213 = draw213 ∧ ann.dok 213 = dok213 ∧ ann.reg 213 = reg213 ∧ ann.loop 213 = loop213 ∧ ann.keep 213 = false := ⟨rfl, rfl, rfl, rfl, rfl, rfl⟩
theorem a214 : ann.recov 214 = false ∧ ann.reg 214 = reg214 ∧ ann.keep 214 = false := ⟨rfl, rfl, rfl⟩
theorem a215 : ann.recov 215 = false ∧ ann.draw 215 = draw215 ∧ ann.dok 215 = dok215 ∧ ann.reg 215 = reg215 ∧ ann.loop 215 = loop215 ∧ ann.keep 215 = false := ⟨rfl, rfl, rfl, rfl, rfl, rfl⟩
theorem a216 : ann.recov 216 = false ∧ ann.draw 216 = draw216 ∧ ann.dok 216 = dok216 ∧ ann.reg 216 = reg216 ∧ ann.loop 216 = loop216 ∧ ann.keep 216 = false := ⟨rfl, rfl, rfl, rfl, rfl, rfl⟩
theorem a217 : ann.recov 217 = false ∧ ann.draw 217 = draw217 ∧ ann.dok 217 = dok217 ∧ ann.reg 217 = reg217 ∧ ann.loop 217 = loop217 ∧ ann.keep 217 = false := ⟨rfl, rfl, rfl, rfl, rfl, rfl⟩
theorem a218 : ann.recov 218 = false ∧ ann.draw 218 = draw218 ∧ ann.dok 218 = dok218 ∧ ann.reg 218 = reg218 ∧ ann.loop 218 = loop218 ∧ ann.keep 218 = false := ⟨rfl, rfl, rfl, rfl, rfl, rfl⟩
theorem a219 : ann.recov 219 = false ∧ ann.reg 219 = reg219 ∧ ann.keep 219 = false := ⟨rfl, rfl, rfl⟩
theorem a220 : ann.recov 220 = false ∧ ann.reg 220 = reg220 ∧ ann.keep 220 = false := ⟨rfl, rfl, rfl⟩
theorem a221 : ann.recov 221 = false ∧ ann.reg 221 = reg221 ∧ ann.keep 221 = false := ⟨rfl, rfl, rfl⟩
theorem a223 : ann.recov 223 = false ∧ ann.reg 223 = reg223 ∧ ann.loop 223 = loop223 ∧ ann.keep 223 = false := ⟨rfl, rfl, rfl, rfl⟩
theorem a224 : ann.recov 224 = false ∧ ann.reg 224 = reg224 ∧ ann.keep 224 = false := ⟨rfl, rfl, rfl⟩
theorem a225 : ann.recov 225 = false ∧ ann.reg 225 = reg225 ∧ ann.keep 225 = false := ⟨rfl, rfl, rfl⟩
theorem a226 : ann.recov 226 = false ∧ ann.reg 226 = reg226 ∧ ann.keep 226 = false := ⟨rfl, rfl, rfl⟩
theorem a227 : ann.recov 227 = false ∧ ann.draw 227 = draw227 ∧ ann.dok 227 = dok227 ∧ ann.reg 227 = reg227 ∧ ann.keep 227 = false := ⟨rfl, rfl, rfl, rfl, rfl⟩
theorem a228 : ann.recov 228 = false ∧ ann.draw 228 = draw228 ∧ ann.dok 228 = dok228 ∧ ann.reg 228 = reg228 ∧ ann.keep 228 = false := ⟨rfl, rfl, rfl, rfl, rfl⟩
theorem a229 : ann.recov 229 = false ∧ ann.reg 229 = reg229 ∧ ann.keep 229 = false := ⟨rfl, rfl, rfl⟩
theorem a230 : ann.recov 230 = false ∧ ann.reg 230 = reg230 ∧ ann.keep 230 = false := ⟨rfl, rfl, rfl⟩
theorem a231 : ann.recov 231 = false ∧ ann.draw 231 = draw231 ∧ ann.dok 231 = dok231 ∧ ann.reg 231 = reg231 ∧ ann.loop 231 = loop231 ∧ ann.keep 231 = false := ⟨rfl, rfl, rfl, rfl, rfl, rfl⟩
theorem a232 : ann.recov 232 = false ∧ ann.reg 232 = reg232 ∧ ann.keep 232 = false := ⟨rfl, rfl, rfl⟩
theorem a233 : ann.recov 233 = false ∧ ann.draw 233 = draw233 ∧ ann.dok 233 = dok233 ∧ ann.reg 233 = reg233 ∧ ann.keep 233 = false := ⟨rfl, rfl, rfl, rfl, rfl⟩
theorem a234 : ann.recov 234 = false ∧ ann.reg 234 = reg234 ∧ ann.keep 234 = false := ⟨rfl, rfl, rfl⟩
theorem a235 : ann.recov 235 = false ∧ ann.reg 235 = reg235 ∧ ann.keep 235 = false := ⟨rfl, rfl, rfl⟩
theorem a236 : ann.recov 236 = false ∧ ann.reg 236 = reg236 ∧ ann.loop 236 = loop236 ∧ ann.keep 236 = false := ⟨rfl, rfl, rfl, rfl⟩
theorem a237 : ann.recov 237 = false ∧ ann.reg 237 = reg237 ∧ ann.keep 237 = false := ⟨rfl, rfl, rfl⟩
theorem a238 : ann.recov 238 = false ∧ ann.reg 238 = reg238 ∧ ann.keep 238 = false := ⟨rfl, rfl, rfl⟩
theorem a239 : ann.recov 239 = false ∧ ann.draw 239 = draw239 ∧ ann.dok 239 = dok239 ∧ ann.reg 239 = reg239 ∧ ann.keep 239 = false := ⟨rfl, rfl, rfl, rfl, rfl⟩
theorem a240 : ann.recov 240 = false ∧ ann.reg 240 = reg240 ∧ ann.keep 240 = false := ⟨rfl, rfl, rfl⟩
theorem a241 : ann.recov 241 = false ∧ ann.reg 241 = reg241 ∧ ann.loop 241 = loop241 ∧ ann.keep 241 = false := ⟨rfl, rfl, rfl, rfl⟩
theorem a272 : ann.recov 272 = false ∧ ann.reg 272 = reg272 ∧ ann.keep 272 = false := ⟨rfl, rfl, rfl⟩
end AE
end Go.Proofs.YtmfdpijmholedaaGreatDoor
