/-
  The roots of the first three keepers' trees, reckoned by the kernel: they differ.
-/
import Derived.Test.YtadhbnleahipaaaGreatDoorBlakeEval
import Derived.Test.YtadhbnleahipaaaGreatDoorChainDef
import Derived.Test.YtadhbnleahipaaaGreatDoorTreePlain
import Derived.KernelRfl
namespace Go.Proofs.YtadhbnleahipaaaGreatDoor
open Go.RowKit

def stepN (x : List Nat) : List Nat := hashN (53 :: 58 :: 99 :: 104 :: 97 :: 105 :: 110 :: 44 :: 49 :: 54 :: 58 :: (x ++ [44]))
def itN : Nat → List Nat → List Nat
  | 0, x => x
  | n + 1, x => stepN (itN n x)
theorem bN_app (a b : List UInt8) : bN (a ++ b) = bN a ++ bN b := by unfold bN; rw [List.map_append]
theorem hashL_N (l : List (List UInt8)) : bN (hashL l) = hashN (bN (l.map strL).flatten) := (hashN_eq _).symm
theorem str16 {x : List UInt8} (h : x.length = 16) : strL x = [49, 54, 58] ++ x ++ [44] := by
  unfold strL
  rw [h]
  have : Lib.itoa ((16 : Nat) : Int) = [49, 54] := by decide +kernel
  rw [this]; rfl
theorem strChain : strL lChain = [53, 58, 99, 104, 97, 105, 110, 44] := by decide +kernel
theorem step_N {x : List UInt8} (h : x.length = 16) : bN (hashL [lChain, x]) = stepN (bN x) := by
  rw [hashL_N]
  unfold stepN
  congr 1
  show bN (strL lChain ++ (strL x ++ [])) = _
  rw [List.append_nil, strChain, str16 h, bN_app, bN_app, bN_app]
  rfl
theorem it_N {x : List UInt8} (h : x.length = 16) : ∀ n, bN (chainL x n) = itN n (bN x)
  | 0 => rfl
  | n + 1 => by
    rw [chainL, step_N (chainL16 h n), it_N h n]; rfl
def endN (s : List UInt8) (k c : Int) : List Nat := itN 15 (hashN (bN ([lWots, s, numL k, numL c].map strL).flatten))
theorem end_N (s : List UInt8) (k c : Int) : bN (chainL (secretL s k c) 15) = endN s k c := by
  rw [it_N (secretL_length _ _ _), secretL, hashL_N]; rfl
def endsN (s : List UInt8) (k : Int) : Nat → List (List Nat)
  | 0 => []
  | i + 1 => endsN s k i ++ [endN s k i]
theorem ends_N (s : List UInt8) (k : Int) : ∀ n, (endsL s k n).map bN = endsN s k n
  | 0 => rfl
  | n + 1 => by rw [endsL, List.map_append, ends_N s k n, endsN, List.map_cons, List.map_nil, end_N]
def catN : List (List Nat) → List Nat
  | [] => []
  | e :: l => 49 :: 54 :: 58 :: (e ++ 44 :: catN l)
theorem cat_N : ∀ (L : List (List UInt8)), (∀ x ∈ L, x.length = 16) → bN (L.map strL).flatten = catN (L.map bN)
  | [], _ => rfl
  | x :: L, h => by
    rw [List.map_cons, List.flatten_cons, bN_app, cat_N L (fun y hy => h y (by simp [hy])), str16 (h x (by simp)), bN_app, bN_app, List.map_cons, catN]
    simp [bN]
theorem strPublic : strL lPublic = [54, 58, 112, 117, 98, 108, 105, 99, 44] := by decide +kernel
theorem ends16 (s : List UInt8) (k : Int) : ∀ n, ∀ x ∈ endsL s k n, x.length = 16
  | 0, x, h => by cases h
  | n + 1, x, h => by
    rw [endsL, List.mem_append, List.mem_singleton] at h
    rcases h with h | rfl
    · exact ends16 s k n x h
    · exact chainL16 (secretL_length _ _ _) 15
def pubN (E : List (List Nat)) : List Nat := hashN (54 :: 58 :: 112 :: 117 :: 98 :: 108 :: 105 :: 99 :: 44 :: catN E)
theorem pub_N (s : List UInt8) (k : Int) (h : ¬ k < 0) : bN (publicL s k) = pubN (endsN s k 35) := by
  rw [publicL, if_neg h, hashL_N]
  unfold pubN
  congr 1
  rw [List.map_cons, List.flatten_cons, bN_app, cat_N _ (ends16 s k 35), ends_N, strPublic]
  generalize catN (endsN s k 35) = X
  rfl
theorem strNode : strL [110, 111, 100, 101] = [52, 58, 110, 111, 100, 101, 44] := by decide +kernel
def nodN (a b : List Nat) : List Nat := hashN (52 :: 58 :: 110 :: 111 :: 100 :: 101 :: 44 :: catN [a, b])
theorem nod_N {a b : List UInt8} (ha : a.length = 16) (hb : b.length = 16) : bN (nodeL a b) = nodN (bN a) (bN b) := by
  rw [nodeL, hashL_N]
  unfold nodN
  congr 1
  rw [List.map_cons, List.flatten_cons, bN_app, cat_N [a, b] (fun x hx => by simp at hx; rcases hx with rfl | rfl <;> assumption), strNode]
  rfl
theorem public16 (s : List UInt8) (k : Int) (h : ¬ k < 0) : (publicL s k).length = 16 := by rw [publicL, if_neg h]; exact hashL_length _
theorem root_node (s : List UInt8) : rootL s 1 = nodeL (publicL s 0) (publicL s 1) := by
  rw [rootL, if_neg (by decide)]
  show nodeAt (treeL s 1) (0 + 1) 0 = _
  rw [tree_next s 1 0 0 (by decide) (by decide), tree_leaf s 1 _ (by decide), tree_leaf s 1 _ (by decide)]
  rfl
theorem root_N (s : List UInt8) : bN (rootL s 1) = nodN (pubN (endsN s 0 35)) (pubN (endsN s 1 35)) := by
  rw [root_node, nod_N (public16 s 0 (by decide)) (public16 s 1 (by decide)), pub_N s 0 (by decide), pub_N s 1 (by decide)]
theorem ends_list (s : List UInt8) (k : Int) : endsN s k 35 = [endN s k ((0 : Nat) : Int), endN s k ((1 : Nat) : Int), endN s k ((2 : Nat) : Int), endN s k ((3 : Nat) : Int), endN s k ((4 : Nat) : Int), endN s k ((5 : Nat) : Int), endN s k ((6 : Nat) : Int), endN s k ((7 : Nat) : Int), endN s k ((8 : Nat) : Int), endN s k ((9 : Nat) : Int), endN s k ((10 : Nat) : Int), endN s k ((11 : Nat) : Int), endN s k ((12 : Nat) : Int), endN s k ((13 : Nat) : Int), endN s k ((14 : Nat) : Int), endN s k ((15 : Nat) : Int), endN s k ((16 : Nat) : Int), endN s k ((17 : Nat) : Int), endN s k ((18 : Nat) : Int), endN s k ((19 : Nat) : Int), endN s k ((20 : Nat) : Int), endN s k ((21 : Nat) : Int), endN s k ((22 : Nat) : Int), endN s k ((23 : Nat) : Int), endN s k ((24 : Nat) : Int), endN s k ((25 : Nat) : Int), endN s k ((26 : Nat) : Int), endN s k ((27 : Nat) : Int), endN s k ((28 : Nat) : Int), endN s k ((29 : Nat) : Int), endN s k ((30 : Nat) : Int), endN s k ((31 : Nat) : Int), endN s k ((32 : Nat) : Int), endN s k ((33 : Nat) : Int), endN s k ((34 : Nat) : Int)] := by
  simp only [endsN, List.nil_append, List.cons_append]
set_option maxRecDepth 100000 in
theorem e00c0 : endN (seedL 0) 0 ((0 : Nat) : Int) = [52, 249, 250, 215, 218, 236, 172, 140, 70, 181, 59, 250, 201, 100, 16, 240] := by kernel_rfl
set_option maxRecDepth 100000 in
theorem e00c1 : endN (seedL 0) 0 ((1 : Nat) : Int) = [221, 137, 169, 203, 223, 191, 14, 45, 193, 118, 146, 241, 89, 34, 238, 156] := by kernel_rfl
set_option maxRecDepth 100000 in
theorem e00c2 : endN (seedL 0) 0 ((2 : Nat) : Int) = [75, 24, 74, 137, 193, 174, 26, 62, 134, 242, 50, 237, 212, 252, 130, 28] := by kernel_rfl
set_option maxRecDepth 100000 in
theorem e00c3 : endN (seedL 0) 0 ((3 : Nat) : Int) = [87, 235, 105, 3, 6, 122, 152, 36, 136, 121, 46, 247, 165, 194, 192, 177] := by kernel_rfl
set_option maxRecDepth 100000 in
theorem e00c4 : endN (seedL 0) 0 ((4 : Nat) : Int) = [219, 226, 49, 210, 5, 174, 108, 208, 9, 155, 42, 95, 47, 42, 75, 12] := by kernel_rfl
set_option maxRecDepth 100000 in
theorem e00c5 : endN (seedL 0) 0 ((5 : Nat) : Int) = [203, 133, 62, 197, 122, 36, 25, 227, 26, 68, 78, 250, 253, 166, 119, 255] := by kernel_rfl
set_option maxRecDepth 100000 in
theorem e00c6 : endN (seedL 0) 0 ((6 : Nat) : Int) = [87, 52, 137, 2, 143, 22, 95, 254, 98, 243, 97, 200, 51, 60, 192, 72] := by kernel_rfl
set_option maxRecDepth 100000 in
theorem e00c7 : endN (seedL 0) 0 ((7 : Nat) : Int) = [50, 212, 66, 157, 47, 249, 60, 237, 224, 196, 48, 13, 144, 140, 238, 22] := by kernel_rfl
set_option maxRecDepth 100000 in
theorem e00c8 : endN (seedL 0) 0 ((8 : Nat) : Int) = [37, 32, 149, 11, 203, 49, 190, 88, 69, 4, 12, 14, 58, 101, 95, 23] := by kernel_rfl
set_option maxRecDepth 100000 in
theorem e00c9 : endN (seedL 0) 0 ((9 : Nat) : Int) = [221, 234, 59, 96, 165, 211, 226, 252, 167, 89, 95, 225, 165, 171, 77, 43] := by kernel_rfl
set_option maxRecDepth 100000 in
theorem e00c10 : endN (seedL 0) 0 ((10 : Nat) : Int) = [24, 192, 110, 169, 98, 168, 191, 182, 84, 77, 147, 48, 101, 231, 105, 97] := by kernel_rfl
set_option maxRecDepth 100000 in
theorem e00c11 : endN (seedL 0) 0 ((11 : Nat) : Int) = [16, 239, 29, 74, 39, 107, 103, 26, 93, 70, 100, 211, 247, 243, 98, 216] := by kernel_rfl
set_option maxRecDepth 100000 in
theorem e00c12 : endN (seedL 0) 0 ((12 : Nat) : Int) = [86, 119, 152, 219, 248, 103, 0, 55, 25, 158, 220, 173, 9, 64, 246, 189] := by kernel_rfl
set_option maxRecDepth 100000 in
theorem e00c13 : endN (seedL 0) 0 ((13 : Nat) : Int) = [209, 68, 19, 40, 84, 79, 81, 112, 9, 42, 235, 44, 2, 218, 32, 225] := by kernel_rfl
set_option maxRecDepth 100000 in
theorem e00c14 : endN (seedL 0) 0 ((14 : Nat) : Int) = [20, 212, 175, 219, 33, 91, 154, 192, 130, 124, 78, 217, 133, 177, 13, 169] := by kernel_rfl
set_option maxRecDepth 100000 in
theorem e00c15 : endN (seedL 0) 0 ((15 : Nat) : Int) = [119, 161, 20, 210, 183, 106, 38, 47, 59, 212, 152, 51, 234, 53, 87, 62] := by kernel_rfl
set_option maxRecDepth 100000 in
theorem e00c16 : endN (seedL 0) 0 ((16 : Nat) : Int) = [237, 248, 217, 172, 68, 53, 220, 50, 117, 61, 139, 243, 235, 189, 6, 201] := by kernel_rfl
set_option maxRecDepth 100000 in
theorem e00c17 : endN (seedL 0) 0 ((17 : Nat) : Int) = [197, 200, 108, 21, 122, 223, 191, 146, 39, 178, 79, 129, 107, 36, 134, 110] := by kernel_rfl
set_option maxRecDepth 100000 in
theorem e00c18 : endN (seedL 0) 0 ((18 : Nat) : Int) = [57, 35, 59, 77, 63, 50, 184, 58, 66, 242, 222, 66, 102, 153, 97, 91] := by kernel_rfl
set_option maxRecDepth 100000 in
theorem e00c19 : endN (seedL 0) 0 ((19 : Nat) : Int) = [179, 148, 14, 138, 150, 246, 59, 21, 93, 167, 215, 34, 146, 45, 90, 249] := by kernel_rfl
set_option maxRecDepth 100000 in
theorem e00c20 : endN (seedL 0) 0 ((20 : Nat) : Int) = [97, 209, 239, 14, 247, 162, 6, 158, 53, 148, 99, 197, 193, 18, 15, 90] := by kernel_rfl
set_option maxRecDepth 100000 in
theorem e00c21 : endN (seedL 0) 0 ((21 : Nat) : Int) = [3, 84, 71, 170, 77, 32, 224, 234, 152, 204, 39, 243, 212, 150, 175, 92] := by kernel_rfl
set_option maxRecDepth 100000 in
theorem e00c22 : endN (seedL 0) 0 ((22 : Nat) : Int) = [220, 150, 35, 44, 23, 214, 157, 220, 134, 199, 117, 12, 14, 99, 127, 169] := by kernel_rfl
set_option maxRecDepth 100000 in
theorem e00c23 : endN (seedL 0) 0 ((23 : Nat) : Int) = [37, 233, 205, 175, 174, 160, 58, 141, 228, 30, 147, 183, 112, 197, 135, 70] := by kernel_rfl
set_option maxRecDepth 100000 in
theorem e00c24 : endN (seedL 0) 0 ((24 : Nat) : Int) = [207, 167, 235, 255, 198, 160, 82, 91, 214, 204, 1, 27, 217, 121, 34, 102] := by kernel_rfl
set_option maxRecDepth 100000 in
theorem e00c25 : endN (seedL 0) 0 ((25 : Nat) : Int) = [123, 129, 147, 130, 80, 81, 77, 241, 58, 210, 105, 63, 1, 51, 248, 10] := by kernel_rfl
set_option maxRecDepth 100000 in
theorem e00c26 : endN (seedL 0) 0 ((26 : Nat) : Int) = [172, 223, 76, 213, 159, 80, 20, 237, 216, 178, 149, 95, 254, 139, 74, 207] := by kernel_rfl
set_option maxRecDepth 100000 in
theorem e00c27 : endN (seedL 0) 0 ((27 : Nat) : Int) = [56, 33, 199, 206, 144, 247, 228, 14, 120, 246, 156, 56, 227, 112, 155, 25] := by kernel_rfl
set_option maxRecDepth 100000 in
theorem e00c28 : endN (seedL 0) 0 ((28 : Nat) : Int) = [100, 159, 180, 120, 35, 26, 220, 202, 46, 124, 146, 70, 110, 101, 64, 241] := by kernel_rfl
set_option maxRecDepth 100000 in
theorem e00c29 : endN (seedL 0) 0 ((29 : Nat) : Int) = [64, 147, 159, 199, 100, 230, 209, 161, 92, 185, 195, 127, 49, 81, 247, 153] := by kernel_rfl
set_option maxRecDepth 100000 in
theorem e00c30 : endN (seedL 0) 0 ((30 : Nat) : Int) = [114, 214, 156, 71, 33, 168, 215, 212, 44, 109, 83, 174, 132, 224, 28, 143] := by kernel_rfl
set_option maxRecDepth 100000 in
theorem e00c31 : endN (seedL 0) 0 ((31 : Nat) : Int) = [167, 228, 2, 99, 96, 11, 150, 216, 12, 142, 165, 118, 136, 131, 173, 135] := by kernel_rfl
set_option maxRecDepth 100000 in
theorem e00c32 : endN (seedL 0) 0 ((32 : Nat) : Int) = [204, 22, 38, 147, 187, 19, 17, 25, 54, 60, 116, 167, 152, 206, 169, 198] := by kernel_rfl
set_option maxRecDepth 100000 in
theorem e00c33 : endN (seedL 0) 0 ((33 : Nat) : Int) = [86, 102, 23, 228, 57, 80, 17, 31, 135, 176, 19, 103, 230, 106, 188, 1] := by kernel_rfl
set_option maxRecDepth 100000 in
theorem e00c34 : endN (seedL 0) 0 ((34 : Nat) : Int) = [179, 61, 148, 179, 123, 180, 224, 178, 161, 127, 166, 75, 74, 246, 15, 210] := by kernel_rfl
theorem ends00 : endsN (seedL 0) 0 35 = [[52, 249, 250, 215, 218, 236, 172, 140, 70, 181, 59, 250, 201, 100, 16, 240], [221, 137, 169, 203, 223, 191, 14, 45, 193, 118, 146, 241, 89, 34, 238, 156], [75, 24, 74, 137, 193, 174, 26, 62, 134, 242, 50, 237, 212, 252, 130, 28], [87, 235, 105, 3, 6, 122, 152, 36, 136, 121, 46, 247, 165, 194, 192, 177], [219, 226, 49, 210, 5, 174, 108, 208, 9, 155, 42, 95, 47, 42, 75, 12], [203, 133, 62, 197, 122, 36, 25, 227, 26, 68, 78, 250, 253, 166, 119, 255], [87, 52, 137, 2, 143, 22, 95, 254, 98, 243, 97, 200, 51, 60, 192, 72], [50, 212, 66, 157, 47, 249, 60, 237, 224, 196, 48, 13, 144, 140, 238, 22], [37, 32, 149, 11, 203, 49, 190, 88, 69, 4, 12, 14, 58, 101, 95, 23], [221, 234, 59, 96, 165, 211, 226, 252, 167, 89, 95, 225, 165, 171, 77, 43], [24, 192, 110, 169, 98, 168, 191, 182, 84, 77, 147, 48, 101, 231, 105, 97], [16, 239, 29, 74, 39, 107, 103, 26, 93, 70, 100, 211, 247, 243, 98, 216], [86, 119, 152, 219, 248, 103, 0, 55, 25, 158, 220, 173, 9, 64, 246, 189], [209, 68, 19, 40, 84, 79, 81, 112, 9, 42, 235, 44, 2, 218, 32, 225], [20, 212, 175, 219, 33, 91, 154, 192, 130, 124, 78, 217, 133, 177, 13, 169], [119, 161, 20, 210, 183, 106, 38, 47, 59, 212, 152, 51, 234, 53, 87, 62], [237, 248, 217, 172, 68, 53, 220, 50, 117, 61, 139, 243, 235, 189, 6, 201], [197, 200, 108, 21, 122, 223, 191, 146, 39, 178, 79, 129, 107, 36, 134, 110], [57, 35, 59, 77, 63, 50, 184, 58, 66, 242, 222, 66, 102, 153, 97, 91], [179, 148, 14, 138, 150, 246, 59, 21, 93, 167, 215, 34, 146, 45, 90, 249], [97, 209, 239, 14, 247, 162, 6, 158, 53, 148, 99, 197, 193, 18, 15, 90], [3, 84, 71, 170, 77, 32, 224, 234, 152, 204, 39, 243, 212, 150, 175, 92], [220, 150, 35, 44, 23, 214, 157, 220, 134, 199, 117, 12, 14, 99, 127, 169], [37, 233, 205, 175, 174, 160, 58, 141, 228, 30, 147, 183, 112, 197, 135, 70], [207, 167, 235, 255, 198, 160, 82, 91, 214, 204, 1, 27, 217, 121, 34, 102], [123, 129, 147, 130, 80, 81, 77, 241, 58, 210, 105, 63, 1, 51, 248, 10], [172, 223, 76, 213, 159, 80, 20, 237, 216, 178, 149, 95, 254, 139, 74, 207], [56, 33, 199, 206, 144, 247, 228, 14, 120, 246, 156, 56, 227, 112, 155, 25], [100, 159, 180, 120, 35, 26, 220, 202, 46, 124, 146, 70, 110, 101, 64, 241], [64, 147, 159, 199, 100, 230, 209, 161, 92, 185, 195, 127, 49, 81, 247, 153], [114, 214, 156, 71, 33, 168, 215, 212, 44, 109, 83, 174, 132, 224, 28, 143], [167, 228, 2, 99, 96, 11, 150, 216, 12, 142, 165, 118, 136, 131, 173, 135], [204, 22, 38, 147, 187, 19, 17, 25, 54, 60, 116, 167, 152, 206, 169, 198], [86, 102, 23, 228, 57, 80, 17, 31, 135, 176, 19, 103, 230, 106, 188, 1], [179, 61, 148, 179, 123, 180, 224, 178, 161, 127, 166, 75, 74, 246, 15, 210]] := by
  rw [ends_list, e00c0, e00c1, e00c2, e00c3, e00c4, e00c5, e00c6, e00c7, e00c8, e00c9, e00c10, e00c11, e00c12, e00c13, e00c14, e00c15, e00c16, e00c17, e00c18, e00c19, e00c20, e00c21, e00c22, e00c23, e00c24, e00c25, e00c26, e00c27, e00c28, e00c29, e00c30, e00c31, e00c32, e00c33, e00c34]
set_option maxRecDepth 100000 in
theorem e01c0 : endN (seedL 0) 1 ((0 : Nat) : Int) = [182, 17, 129, 236, 145, 171, 147, 156, 96, 223, 44, 78, 49, 98, 225, 211] := by kernel_rfl
set_option maxRecDepth 100000 in
theorem e01c1 : endN (seedL 0) 1 ((1 : Nat) : Int) = [104, 15, 124, 144, 160, 135, 144, 96, 188, 219, 191, 161, 36, 61, 162, 169] := by kernel_rfl
set_option maxRecDepth 100000 in
theorem e01c2 : endN (seedL 0) 1 ((2 : Nat) : Int) = [124, 120, 103, 118, 1, 166, 7, 229, 39, 238, 131, 248, 19, 179, 176, 55] := by kernel_rfl
set_option maxRecDepth 100000 in
theorem e01c3 : endN (seedL 0) 1 ((3 : Nat) : Int) = [155, 84, 65, 170, 11, 105, 242, 200, 77, 158, 187, 96, 6, 235, 2, 132] := by kernel_rfl
set_option maxRecDepth 100000 in
theorem e01c4 : endN (seedL 0) 1 ((4 : Nat) : Int) = [220, 229, 207, 183, 74, 150, 104, 179, 24, 123, 13, 96, 135, 244, 206, 248] := by kernel_rfl
set_option maxRecDepth 100000 in
theorem e01c5 : endN (seedL 0) 1 ((5 : Nat) : Int) = [246, 105, 171, 127, 212, 145, 165, 29, 193, 101, 145, 158, 103, 183, 196, 61] := by kernel_rfl
set_option maxRecDepth 100000 in
theorem e01c6 : endN (seedL 0) 1 ((6 : Nat) : Int) = [220, 244, 9, 89, 221, 137, 57, 163, 35, 152, 66, 53, 76, 142, 226, 123] := by kernel_rfl
set_option maxRecDepth 100000 in
theorem e01c7 : endN (seedL 0) 1 ((7 : Nat) : Int) = [249, 255, 103, 117, 240, 254, 201, 132, 61, 10, 236, 244, 80, 195, 141, 212] := by kernel_rfl
set_option maxRecDepth 100000 in
theorem e01c8 : endN (seedL 0) 1 ((8 : Nat) : Int) = [142, 34, 156, 72, 26, 36, 214, 53, 215, 76, 155, 81, 84, 160, 142, 244] := by kernel_rfl
set_option maxRecDepth 100000 in
theorem e01c9 : endN (seedL 0) 1 ((9 : Nat) : Int) = [129, 151, 214, 136, 200, 79, 78, 92, 63, 133, 165, 244, 42, 86, 244, 79] := by kernel_rfl
set_option maxRecDepth 100000 in
theorem e01c10 : endN (seedL 0) 1 ((10 : Nat) : Int) = [147, 242, 217, 239, 170, 169, 249, 185, 150, 176, 180, 160, 75, 126, 202, 33] := by kernel_rfl
set_option maxRecDepth 100000 in
theorem e01c11 : endN (seedL 0) 1 ((11 : Nat) : Int) = [18, 89, 235, 196, 231, 166, 177, 178, 27, 213, 126, 82, 160, 59, 190, 178] := by kernel_rfl
set_option maxRecDepth 100000 in
theorem e01c12 : endN (seedL 0) 1 ((12 : Nat) : Int) = [195, 44, 153, 142, 233, 127, 168, 93, 99, 159, 103, 46, 136, 51, 72, 230] := by kernel_rfl
set_option maxRecDepth 100000 in
theorem e01c13 : endN (seedL 0) 1 ((13 : Nat) : Int) = [199, 196, 75, 67, 8, 173, 138, 80, 85, 158, 132, 159, 26, 204, 205, 170] := by kernel_rfl
set_option maxRecDepth 100000 in
theorem e01c14 : endN (seedL 0) 1 ((14 : Nat) : Int) = [64, 119, 111, 51, 25, 146, 117, 197, 29, 155, 251, 57, 195, 200, 86, 150] := by kernel_rfl
set_option maxRecDepth 100000 in
theorem e01c15 : endN (seedL 0) 1 ((15 : Nat) : Int) = [8, 7, 79, 7, 73, 230, 228, 42, 176, 85, 5, 138, 22, 33, 91, 191] := by kernel_rfl
set_option maxRecDepth 100000 in
theorem e01c16 : endN (seedL 0) 1 ((16 : Nat) : Int) = [244, 199, 87, 58, 121, 149, 119, 12, 69, 111, 55, 13, 188, 130, 163, 74] := by kernel_rfl
set_option maxRecDepth 100000 in
theorem e01c17 : endN (seedL 0) 1 ((17 : Nat) : Int) = [67, 207, 165, 168, 105, 246, 255, 7, 107, 255, 179, 117, 97, 108, 160, 39] := by kernel_rfl
set_option maxRecDepth 100000 in
theorem e01c18 : endN (seedL 0) 1 ((18 : Nat) : Int) = [100, 172, 77, 18, 155, 20, 218, 208, 177, 11, 141, 139, 196, 8, 63, 101] := by kernel_rfl
set_option maxRecDepth 100000 in
theorem e01c19 : endN (seedL 0) 1 ((19 : Nat) : Int) = [13, 78, 44, 150, 80, 218, 75, 131, 227, 247, 130, 255, 149, 83, 226, 125] := by kernel_rfl
set_option maxRecDepth 100000 in
theorem e01c20 : endN (seedL 0) 1 ((20 : Nat) : Int) = [31, 56, 198, 170, 82, 210, 237, 46, 229, 194, 165, 36, 110, 53, 185, 28] := by kernel_rfl
set_option maxRecDepth 100000 in
theorem e01c21 : endN (seedL 0) 1 ((21 : Nat) : Int) = [166, 93, 239, 129, 217, 43, 48, 102, 144, 168, 145, 254, 96, 99, 108, 9] := by kernel_rfl
set_option maxRecDepth 100000 in
theorem e01c22 : endN (seedL 0) 1 ((22 : Nat) : Int) = [213, 231, 5, 190, 166, 104, 156, 121, 220, 147, 114, 115, 125, 77, 196, 146] := by kernel_rfl
set_option maxRecDepth 100000 in
theorem e01c23 : endN (seedL 0) 1 ((23 : Nat) : Int) = [14, 230, 158, 132, 15, 8, 66, 22, 212, 162, 119, 156, 40, 65, 60, 193] := by kernel_rfl
set_option maxRecDepth 100000 in
theorem e01c24 : endN (seedL 0) 1 ((24 : Nat) : Int) = [244, 166, 242, 164, 226, 242, 143, 24, 203, 181, 121, 93, 22, 13, 110, 186] := by kernel_rfl
set_option maxRecDepth 100000 in
theorem e01c25 : endN (seedL 0) 1 ((25 : Nat) : Int) = [169, 230, 70, 25, 150, 243, 9, 190, 238, 208, 217, 16, 208, 171, 100, 89] := by kernel_rfl
set_option maxRecDepth 100000 in
theorem e01c26 : endN (seedL 0) 1 ((26 : Nat) : Int) = [228, 52, 158, 95, 82, 150, 105, 118, 189, 14, 97, 204, 22, 157, 26, 0] := by kernel_rfl
set_option maxRecDepth 100000 in
theorem e01c27 : endN (seedL 0) 1 ((27 : Nat) : Int) = [234, 18, 238, 36, 16, 10, 248, 125, 103, 242, 198, 69, 155, 4, 132, 194] := by kernel_rfl
set_option maxRecDepth 100000 in
theorem e01c28 : endN (seedL 0) 1 ((28 : Nat) : Int) = [251, 154, 149, 59, 112, 12, 77, 69, 128, 248, 48, 141, 134, 93, 252, 161] := by kernel_rfl
set_option maxRecDepth 100000 in
theorem e01c29 : endN (seedL 0) 1 ((29 : Nat) : Int) = [84, 17, 130, 141, 19, 182, 248, 253, 26, 39, 84, 115, 9, 194, 138, 142] := by kernel_rfl
set_option maxRecDepth 100000 in
theorem e01c30 : endN (seedL 0) 1 ((30 : Nat) : Int) = [186, 45, 148, 182, 56, 6, 248, 162, 192, 126, 151, 38, 131, 216, 15, 199] := by kernel_rfl
set_option maxRecDepth 100000 in
theorem e01c31 : endN (seedL 0) 1 ((31 : Nat) : Int) = [84, 62, 181, 89, 47, 221, 48, 46, 2, 139, 255, 51, 154, 193, 184, 134] := by kernel_rfl
set_option maxRecDepth 100000 in
theorem e01c32 : endN (seedL 0) 1 ((32 : Nat) : Int) = [66, 18, 114, 11, 247, 86, 102, 32, 123, 49, 238, 140, 253, 106, 227, 221] := by kernel_rfl
set_option maxRecDepth 100000 in
theorem e01c33 : endN (seedL 0) 1 ((33 : Nat) : Int) = [61, 82, 87, 143, 113, 0, 65, 21, 22, 215, 186, 200, 30, 181, 75, 118] := by kernel_rfl
set_option maxRecDepth 100000 in
theorem e01c34 : endN (seedL 0) 1 ((34 : Nat) : Int) = [2, 13, 201, 229, 203, 57, 42, 84, 32, 107, 218, 54, 231, 114, 172, 188] := by kernel_rfl
theorem ends01 : endsN (seedL 0) 1 35 = [[182, 17, 129, 236, 145, 171, 147, 156, 96, 223, 44, 78, 49, 98, 225, 211], [104, 15, 124, 144, 160, 135, 144, 96, 188, 219, 191, 161, 36, 61, 162, 169], [124, 120, 103, 118, 1, 166, 7, 229, 39, 238, 131, 248, 19, 179, 176, 55], [155, 84, 65, 170, 11, 105, 242, 200, 77, 158, 187, 96, 6, 235, 2, 132], [220, 229, 207, 183, 74, 150, 104, 179, 24, 123, 13, 96, 135, 244, 206, 248], [246, 105, 171, 127, 212, 145, 165, 29, 193, 101, 145, 158, 103, 183, 196, 61], [220, 244, 9, 89, 221, 137, 57, 163, 35, 152, 66, 53, 76, 142, 226, 123], [249, 255, 103, 117, 240, 254, 201, 132, 61, 10, 236, 244, 80, 195, 141, 212], [142, 34, 156, 72, 26, 36, 214, 53, 215, 76, 155, 81, 84, 160, 142, 244], [129, 151, 214, 136, 200, 79, 78, 92, 63, 133, 165, 244, 42, 86, 244, 79], [147, 242, 217, 239, 170, 169, 249, 185, 150, 176, 180, 160, 75, 126, 202, 33], [18, 89, 235, 196, 231, 166, 177, 178, 27, 213, 126, 82, 160, 59, 190, 178], [195, 44, 153, 142, 233, 127, 168, 93, 99, 159, 103, 46, 136, 51, 72, 230], [199, 196, 75, 67, 8, 173, 138, 80, 85, 158, 132, 159, 26, 204, 205, 170], [64, 119, 111, 51, 25, 146, 117, 197, 29, 155, 251, 57, 195, 200, 86, 150], [8, 7, 79, 7, 73, 230, 228, 42, 176, 85, 5, 138, 22, 33, 91, 191], [244, 199, 87, 58, 121, 149, 119, 12, 69, 111, 55, 13, 188, 130, 163, 74], [67, 207, 165, 168, 105, 246, 255, 7, 107, 255, 179, 117, 97, 108, 160, 39], [100, 172, 77, 18, 155, 20, 218, 208, 177, 11, 141, 139, 196, 8, 63, 101], [13, 78, 44, 150, 80, 218, 75, 131, 227, 247, 130, 255, 149, 83, 226, 125], [31, 56, 198, 170, 82, 210, 237, 46, 229, 194, 165, 36, 110, 53, 185, 28], [166, 93, 239, 129, 217, 43, 48, 102, 144, 168, 145, 254, 96, 99, 108, 9], [213, 231, 5, 190, 166, 104, 156, 121, 220, 147, 114, 115, 125, 77, 196, 146], [14, 230, 158, 132, 15, 8, 66, 22, 212, 162, 119, 156, 40, 65, 60, 193], [244, 166, 242, 164, 226, 242, 143, 24, 203, 181, 121, 93, 22, 13, 110, 186], [169, 230, 70, 25, 150, 243, 9, 190, 238, 208, 217, 16, 208, 171, 100, 89], [228, 52, 158, 95, 82, 150, 105, 118, 189, 14, 97, 204, 22, 157, 26, 0], [234, 18, 238, 36, 16, 10, 248, 125, 103, 242, 198, 69, 155, 4, 132, 194], [251, 154, 149, 59, 112, 12, 77, 69, 128, 248, 48, 141, 134, 93, 252, 161], [84, 17, 130, 141, 19, 182, 248, 253, 26, 39, 84, 115, 9, 194, 138, 142], [186, 45, 148, 182, 56, 6, 248, 162, 192, 126, 151, 38, 131, 216, 15, 199], [84, 62, 181, 89, 47, 221, 48, 46, 2, 139, 255, 51, 154, 193, 184, 134], [66, 18, 114, 11, 247, 86, 102, 32, 123, 49, 238, 140, 253, 106, 227, 221], [61, 82, 87, 143, 113, 0, 65, 21, 22, 215, 186, 200, 30, 181, 75, 118], [2, 13, 201, 229, 203, 57, 42, 84, 32, 107, 218, 54, 231, 114, 172, 188]] := by
  rw [ends_list, e01c0, e01c1, e01c2, e01c3, e01c4, e01c5, e01c6, e01c7, e01c8, e01c9, e01c10, e01c11, e01c12, e01c13, e01c14, e01c15, e01c16, e01c17, e01c18, e01c19, e01c20, e01c21, e01c22, e01c23, e01c24, e01c25, e01c26, e01c27, e01c28, e01c29, e01c30, e01c31, e01c32, e01c33, e01c34]
set_option maxRecDepth 100000 in
theorem root0 : bN (rootL (seedL 0) 1) = [239, 96, 2, 217, 46, 241, 99, 118, 32, 38, 202, 220, 201, 174, 177, 210] := by
  rw [root_N, ends00, ends01]
  kernel_rfl
set_option maxRecDepth 100000 in
theorem e10c0 : endN (seedL 1) 0 ((0 : Nat) : Int) = [202, 26, 10, 41, 207, 151, 19, 149, 22, 87, 82, 213, 96, 128, 201, 174] := by kernel_rfl
set_option maxRecDepth 100000 in
theorem e10c1 : endN (seedL 1) 0 ((1 : Nat) : Int) = [26, 236, 64, 248, 110, 14, 23, 232, 220, 248, 52, 200, 204, 36, 136, 228] := by kernel_rfl
set_option maxRecDepth 100000 in
theorem e10c2 : endN (seedL 1) 0 ((2 : Nat) : Int) = [199, 48, 222, 58, 188, 149, 87, 179, 166, 88, 24, 33, 241, 98, 63, 173] := by kernel_rfl
set_option maxRecDepth 100000 in
theorem e10c3 : endN (seedL 1) 0 ((3 : Nat) : Int) = [212, 150, 63, 52, 161, 177, 141, 145, 16, 16, 173, 9, 134, 135, 45, 55] := by kernel_rfl
set_option maxRecDepth 100000 in
theorem e10c4 : endN (seedL 1) 0 ((4 : Nat) : Int) = [131, 22, 189, 28, 159, 123, 78, 250, 119, 224, 155, 28, 53, 147, 12, 201] := by kernel_rfl
set_option maxRecDepth 100000 in
theorem e10c5 : endN (seedL 1) 0 ((5 : Nat) : Int) = [238, 101, 255, 120, 135, 134, 30, 171, 161, 135, 171, 253, 37, 219, 79, 231] := by kernel_rfl
set_option maxRecDepth 100000 in
theorem e10c6 : endN (seedL 1) 0 ((6 : Nat) : Int) = [179, 25, 117, 3, 54, 9, 140, 123, 110, 167, 127, 49, 14, 63, 34, 69] := by kernel_rfl
set_option maxRecDepth 100000 in
theorem e10c7 : endN (seedL 1) 0 ((7 : Nat) : Int) = [254, 224, 30, 191, 184, 84, 64, 40, 154, 197, 211, 155, 143, 52, 129, 154] := by kernel_rfl
set_option maxRecDepth 100000 in
theorem e10c8 : endN (seedL 1) 0 ((8 : Nat) : Int) = [28, 118, 244, 52, 38, 224, 242, 31, 209, 136, 41, 139, 47, 127, 9, 82] := by kernel_rfl
set_option maxRecDepth 100000 in
theorem e10c9 : endN (seedL 1) 0 ((9 : Nat) : Int) = [147, 37, 0, 148, 249, 248, 136, 160, 186, 162, 96, 124, 231, 249, 64, 99] := by kernel_rfl
set_option maxRecDepth 100000 in
theorem e10c10 : endN (seedL 1) 0 ((10 : Nat) : Int) = [83, 229, 50, 196, 225, 189, 198, 171, 7, 52, 138, 78, 144, 190, 164, 150] := by kernel_rfl
set_option maxRecDepth 100000 in
theorem e10c11 : endN (seedL 1) 0 ((11 : Nat) : Int) = [200, 147, 31, 150, 84, 218, 214, 55, 103, 76, 226, 47, 9, 153, 215, 102] := by kernel_rfl
set_option maxRecDepth 100000 in
theorem e10c12 : endN (seedL 1) 0 ((12 : Nat) : Int) = [229, 74, 215, 226, 204, 14, 48, 243, 186, 15, 228, 173, 138, 116, 175, 24] := by kernel_rfl
set_option maxRecDepth 100000 in
theorem e10c13 : endN (seedL 1) 0 ((13 : Nat) : Int) = [121, 185, 213, 170, 99, 119, 186, 78, 18, 47, 98, 254, 176, 38, 177, 166] := by kernel_rfl
set_option maxRecDepth 100000 in
theorem e10c14 : endN (seedL 1) 0 ((14 : Nat) : Int) = [45, 51, 204, 252, 151, 48, 63, 123, 95, 97, 247, 54, 79, 127, 81, 133] := by kernel_rfl
set_option maxRecDepth 100000 in
theorem e10c15 : endN (seedL 1) 0 ((15 : Nat) : Int) = [0, 163, 238, 193, 151, 30, 135, 216, 125, 7, 112, 212, 193, 200, 58, 13] := by kernel_rfl
set_option maxRecDepth 100000 in
theorem e10c16 : endN (seedL 1) 0 ((16 : Nat) : Int) = [96, 98, 121, 238, 40, 133, 53, 188, 161, 84, 50, 124, 151, 113, 229, 248] := by kernel_rfl
set_option maxRecDepth 100000 in
theorem e10c17 : endN (seedL 1) 0 ((17 : Nat) : Int) = [142, 159, 246, 13, 186, 16, 137, 205, 140, 247, 49, 208, 91, 70, 97, 220] := by kernel_rfl
set_option maxRecDepth 100000 in
theorem e10c18 : endN (seedL 1) 0 ((18 : Nat) : Int) = [108, 115, 201, 218, 74, 59, 182, 119, 39, 20, 91, 166, 149, 56, 154, 47] := by kernel_rfl
set_option maxRecDepth 100000 in
theorem e10c19 : endN (seedL 1) 0 ((19 : Nat) : Int) = [85, 51, 135, 218, 60, 171, 26, 141, 225, 220, 39, 68, 170, 218, 99, 93] := by kernel_rfl
set_option maxRecDepth 100000 in
theorem e10c20 : endN (seedL 1) 0 ((20 : Nat) : Int) = [62, 20, 4, 30, 224, 46, 238, 73, 47, 233, 211, 97, 252, 162, 170, 21] := by kernel_rfl
set_option maxRecDepth 100000 in
theorem e10c21 : endN (seedL 1) 0 ((21 : Nat) : Int) = [72, 223, 165, 227, 150, 29, 174, 84, 20, 53, 103, 65, 3, 250, 14, 127] := by kernel_rfl
set_option maxRecDepth 100000 in
theorem e10c22 : endN (seedL 1) 0 ((22 : Nat) : Int) = [173, 246, 39, 149, 203, 174, 2, 161, 191, 210, 238, 218, 85, 99, 132, 33] := by kernel_rfl
set_option maxRecDepth 100000 in
theorem e10c23 : endN (seedL 1) 0 ((23 : Nat) : Int) = [249, 77, 64, 200, 62, 103, 99, 81, 4, 83, 92, 70, 51, 153, 177, 58] := by kernel_rfl
set_option maxRecDepth 100000 in
theorem e10c24 : endN (seedL 1) 0 ((24 : Nat) : Int) = [196, 245, 161, 178, 97, 166, 246, 203, 239, 102, 215, 53, 135, 92, 209, 149] := by kernel_rfl
set_option maxRecDepth 100000 in
theorem e10c25 : endN (seedL 1) 0 ((25 : Nat) : Int) = [23, 177, 22, 67, 154, 52, 111, 233, 46, 252, 190, 84, 230, 161, 131, 250] := by kernel_rfl
set_option maxRecDepth 100000 in
theorem e10c26 : endN (seedL 1) 0 ((26 : Nat) : Int) = [43, 35, 179, 71, 173, 241, 245, 112, 221, 250, 107, 69, 239, 90, 49, 2] := by kernel_rfl
set_option maxRecDepth 100000 in
theorem e10c27 : endN (seedL 1) 0 ((27 : Nat) : Int) = [117, 6, 98, 55, 35, 196, 131, 83, 199, 47, 196, 73, 170, 189, 1, 190] := by kernel_rfl
set_option maxRecDepth 100000 in
theorem e10c28 : endN (seedL 1) 0 ((28 : Nat) : Int) = [54, 7, 202, 6, 123, 246, 33, 163, 199, 106, 160, 125, 45, 96, 240, 182] := by kernel_rfl
set_option maxRecDepth 100000 in
theorem e10c29 : endN (seedL 1) 0 ((29 : Nat) : Int) = [17, 227, 222, 139, 230, 196, 198, 206, 145, 17, 133, 65, 235, 100, 62, 153] := by kernel_rfl
set_option maxRecDepth 100000 in
theorem e10c30 : endN (seedL 1) 0 ((30 : Nat) : Int) = [99, 222, 97, 252, 71, 198, 249, 60, 227, 32, 183, 90, 89, 101, 5, 68] := by kernel_rfl
set_option maxRecDepth 100000 in
theorem e10c31 : endN (seedL 1) 0 ((31 : Nat) : Int) = [189, 232, 28, 244, 186, 86, 162, 93, 253, 96, 18, 33, 248, 27, 232, 230] := by kernel_rfl
set_option maxRecDepth 100000 in
theorem e10c32 : endN (seedL 1) 0 ((32 : Nat) : Int) = [141, 107, 46, 32, 77, 113, 86, 9, 89, 70, 150, 75, 87, 105, 5, 106] := by kernel_rfl
set_option maxRecDepth 100000 in
theorem e10c33 : endN (seedL 1) 0 ((33 : Nat) : Int) = [95, 182, 48, 179, 188, 133, 229, 128, 6, 243, 81, 28, 111, 26, 114, 51] := by kernel_rfl
set_option maxRecDepth 100000 in
theorem e10c34 : endN (seedL 1) 0 ((34 : Nat) : Int) = [171, 101, 99, 244, 7, 162, 170, 246, 60, 233, 42, 117, 225, 41, 70, 60] := by kernel_rfl
theorem ends10 : endsN (seedL 1) 0 35 = [[202, 26, 10, 41, 207, 151, 19, 149, 22, 87, 82, 213, 96, 128, 201, 174], [26, 236, 64, 248, 110, 14, 23, 232, 220, 248, 52, 200, 204, 36, 136, 228], [199, 48, 222, 58, 188, 149, 87, 179, 166, 88, 24, 33, 241, 98, 63, 173], [212, 150, 63, 52, 161, 177, 141, 145, 16, 16, 173, 9, 134, 135, 45, 55], [131, 22, 189, 28, 159, 123, 78, 250, 119, 224, 155, 28, 53, 147, 12, 201], [238, 101, 255, 120, 135, 134, 30, 171, 161, 135, 171, 253, 37, 219, 79, 231], [179, 25, 117, 3, 54, 9, 140, 123, 110, 167, 127, 49, 14, 63, 34, 69], [254, 224, 30, 191, 184, 84, 64, 40, 154, 197, 211, 155, 143, 52, 129, 154], [28, 118, 244, 52, 38, 224, 242, 31, 209, 136, 41, 139, 47, 127, 9, 82], [147, 37, 0, 148, 249, 248, 136, 160, 186, 162, 96, 124, 231, 249, 64, 99], [83, 229, 50, 196, 225, 189, 198, 171, 7, 52, 138, 78, 144, 190, 164, 150], [200, 147, 31, 150, 84, 218, 214, 55, 103, 76, 226, 47, 9, 153, 215, 102], [229, 74, 215, 226, 204, 14, 48, 243, 186, 15, 228, 173, 138, 116, 175, 24], [121, 185, 213, 170, 99, 119, 186, 78, 18, 47, 98, 254, 176, 38, 177, 166], [45, 51, 204, 252, 151, 48, 63, 123, 95, 97, 247, 54, 79, 127, 81, 133], [0, 163, 238, 193, 151, 30, 135, 216, 125, 7, 112, 212, 193, 200, 58, 13], [96, 98, 121, 238, 40, 133, 53, 188, 161, 84, 50, 124, 151, 113, 229, 248], [142, 159, 246, 13, 186, 16, 137, 205, 140, 247, 49, 208, 91, 70, 97, 220], [108, 115, 201, 218, 74, 59, 182, 119, 39, 20, 91, 166, 149, 56, 154, 47], [85, 51, 135, 218, 60, 171, 26, 141, 225, 220, 39, 68, 170, 218, 99, 93], [62, 20, 4, 30, 224, 46, 238, 73, 47, 233, 211, 97, 252, 162, 170, 21], [72, 223, 165, 227, 150, 29, 174, 84, 20, 53, 103, 65, 3, 250, 14, 127], [173, 246, 39, 149, 203, 174, 2, 161, 191, 210, 238, 218, 85, 99, 132, 33], [249, 77, 64, 200, 62, 103, 99, 81, 4, 83, 92, 70, 51, 153, 177, 58], [196, 245, 161, 178, 97, 166, 246, 203, 239, 102, 215, 53, 135, 92, 209, 149], [23, 177, 22, 67, 154, 52, 111, 233, 46, 252, 190, 84, 230, 161, 131, 250], [43, 35, 179, 71, 173, 241, 245, 112, 221, 250, 107, 69, 239, 90, 49, 2], [117, 6, 98, 55, 35, 196, 131, 83, 199, 47, 196, 73, 170, 189, 1, 190], [54, 7, 202, 6, 123, 246, 33, 163, 199, 106, 160, 125, 45, 96, 240, 182], [17, 227, 222, 139, 230, 196, 198, 206, 145, 17, 133, 65, 235, 100, 62, 153], [99, 222, 97, 252, 71, 198, 249, 60, 227, 32, 183, 90, 89, 101, 5, 68], [189, 232, 28, 244, 186, 86, 162, 93, 253, 96, 18, 33, 248, 27, 232, 230], [141, 107, 46, 32, 77, 113, 86, 9, 89, 70, 150, 75, 87, 105, 5, 106], [95, 182, 48, 179, 188, 133, 229, 128, 6, 243, 81, 28, 111, 26, 114, 51], [171, 101, 99, 244, 7, 162, 170, 246, 60, 233, 42, 117, 225, 41, 70, 60]] := by
  rw [ends_list, e10c0, e10c1, e10c2, e10c3, e10c4, e10c5, e10c6, e10c7, e10c8, e10c9, e10c10, e10c11, e10c12, e10c13, e10c14, e10c15, e10c16, e10c17, e10c18, e10c19, e10c20, e10c21, e10c22, e10c23, e10c24, e10c25, e10c26, e10c27, e10c28, e10c29, e10c30, e10c31, e10c32, e10c33, e10c34]
set_option maxRecDepth 100000 in
theorem e11c0 : endN (seedL 1) 1 ((0 : Nat) : Int) = [60, 182, 248, 71, 112, 140, 99, 112, 47, 139, 200, 123, 49, 153, 37, 212] := by kernel_rfl
set_option maxRecDepth 100000 in
theorem e11c1 : endN (seedL 1) 1 ((1 : Nat) : Int) = [219, 232, 18, 102, 135, 1, 91, 74, 151, 238, 70, 237, 165, 90, 62, 134] := by kernel_rfl
set_option maxRecDepth 100000 in
theorem e11c2 : endN (seedL 1) 1 ((2 : Nat) : Int) = [40, 141, 97, 151, 160, 215, 68, 208, 5, 144, 5, 204, 229, 71, 10, 12] := by kernel_rfl
set_option maxRecDepth 100000 in
theorem e11c3 : endN (seedL 1) 1 ((3 : Nat) : Int) = [212, 144, 73, 2, 167, 150, 188, 199, 141, 187, 39, 215, 19, 48, 156, 72] := by kernel_rfl
set_option maxRecDepth 100000 in
theorem e11c4 : endN (seedL 1) 1 ((4 : Nat) : Int) = [48, 95, 202, 82, 195, 200, 237, 104, 144, 23, 78, 174, 200, 156, 29, 143] := by kernel_rfl
set_option maxRecDepth 100000 in
theorem e11c5 : endN (seedL 1) 1 ((5 : Nat) : Int) = [208, 40, 7, 11, 196, 47, 221, 57, 58, 195, 247, 148, 233, 101, 151, 247] := by kernel_rfl
set_option maxRecDepth 100000 in
theorem e11c6 : endN (seedL 1) 1 ((6 : Nat) : Int) = [123, 180, 128, 53, 61, 229, 136, 123, 79, 171, 183, 13, 180, 121, 205, 16] := by kernel_rfl
set_option maxRecDepth 100000 in
theorem e11c7 : endN (seedL 1) 1 ((7 : Nat) : Int) = [112, 116, 14, 118, 220, 186, 76, 95, 0, 33, 205, 74, 62, 219, 214, 252] := by kernel_rfl
set_option maxRecDepth 100000 in
theorem e11c8 : endN (seedL 1) 1 ((8 : Nat) : Int) = [163, 150, 72, 31, 218, 52, 206, 32, 249, 37, 4, 192, 66, 196, 249, 6] := by kernel_rfl
set_option maxRecDepth 100000 in
theorem e11c9 : endN (seedL 1) 1 ((9 : Nat) : Int) = [47, 222, 45, 209, 95, 231, 161, 247, 93, 30, 244, 165, 163, 233, 235, 67] := by kernel_rfl
set_option maxRecDepth 100000 in
theorem e11c10 : endN (seedL 1) 1 ((10 : Nat) : Int) = [28, 181, 50, 147, 220, 33, 45, 166, 185, 51, 220, 233, 66, 92, 176, 48] := by kernel_rfl
set_option maxRecDepth 100000 in
theorem e11c11 : endN (seedL 1) 1 ((11 : Nat) : Int) = [17, 76, 207, 155, 88, 90, 86, 161, 218, 184, 196, 212, 131, 83, 53, 92] := by kernel_rfl
set_option maxRecDepth 100000 in
theorem e11c12 : endN (seedL 1) 1 ((12 : Nat) : Int) = [68, 213, 45, 8, 65, 83, 74, 143, 14, 68, 108, 248, 140, 196, 31, 249] := by kernel_rfl
set_option maxRecDepth 100000 in
theorem e11c13 : endN (seedL 1) 1 ((13 : Nat) : Int) = [6, 101, 4, 24, 82, 184, 245, 188, 161, 130, 143, 23, 133, 154, 20, 126] := by kernel_rfl
set_option maxRecDepth 100000 in
theorem e11c14 : endN (seedL 1) 1 ((14 : Nat) : Int) = [222, 237, 224, 4, 67, 253, 190, 29, 55, 217, 190, 105, 224, 29, 216, 159] := by kernel_rfl
set_option maxRecDepth 100000 in
theorem e11c15 : endN (seedL 1) 1 ((15 : Nat) : Int) = [98, 29, 104, 174, 154, 128, 11, 25, 91, 139, 58, 56, 177, 212, 173, 225] := by kernel_rfl
set_option maxRecDepth 100000 in
theorem e11c16 : endN (seedL 1) 1 ((16 : Nat) : Int) = [98, 77, 162, 32, 19, 86, 37, 44, 243, 117, 189, 97, 73, 202, 157, 133] := by kernel_rfl
set_option maxRecDepth 100000 in
theorem e11c17 : endN (seedL 1) 1 ((17 : Nat) : Int) = [82, 91, 200, 166, 196, 237, 239, 24, 176, 25, 116, 127, 227, 227, 106, 187] := by kernel_rfl
set_option maxRecDepth 100000 in
theorem e11c18 : endN (seedL 1) 1 ((18 : Nat) : Int) = [3, 206, 54, 170, 131, 92, 141, 17, 198, 255, 74, 238, 211, 25, 32, 178] := by kernel_rfl
set_option maxRecDepth 100000 in
theorem e11c19 : endN (seedL 1) 1 ((19 : Nat) : Int) = [23, 3, 143, 238, 176, 180, 202, 125, 218, 142, 60, 81, 189, 200, 88, 22] := by kernel_rfl
set_option maxRecDepth 100000 in
theorem e11c20 : endN (seedL 1) 1 ((20 : Nat) : Int) = [199, 70, 164, 186, 185, 83, 74, 13, 16, 55, 174, 10, 131, 67, 65, 212] := by kernel_rfl
set_option maxRecDepth 100000 in
theorem e11c21 : endN (seedL 1) 1 ((21 : Nat) : Int) = [85, 211, 180, 167, 165, 87, 104, 220, 179, 5, 90, 131, 205, 164, 54, 21] := by kernel_rfl
set_option maxRecDepth 100000 in
theorem e11c22 : endN (seedL 1) 1 ((22 : Nat) : Int) = [75, 250, 124, 86, 116, 169, 3, 9, 182, 85, 249, 130, 92, 72, 108, 178] := by kernel_rfl
set_option maxRecDepth 100000 in
theorem e11c23 : endN (seedL 1) 1 ((23 : Nat) : Int) = [41, 17, 40, 131, 209, 247, 149, 138, 10, 240, 190, 125, 186, 202, 85, 195] := by kernel_rfl
set_option maxRecDepth 100000 in
theorem e11c24 : endN (seedL 1) 1 ((24 : Nat) : Int) = [15, 3, 161, 121, 172, 233, 229, 35, 157, 246, 144, 145, 148, 165, 146, 192] := by kernel_rfl
set_option maxRecDepth 100000 in
theorem e11c25 : endN (seedL 1) 1 ((25 : Nat) : Int) = [129, 95, 182, 239, 28, 50, 157, 12, 253, 228, 64, 75, 202, 160, 144, 55] := by kernel_rfl
set_option maxRecDepth 100000 in
theorem e11c26 : endN (seedL 1) 1 ((26 : Nat) : Int) = [61, 228, 74, 157, 238, 123, 197, 70, 79, 89, 65, 89, 167, 17, 117, 92] := by kernel_rfl
set_option maxRecDepth 100000 in
theorem e11c27 : endN (seedL 1) 1 ((27 : Nat) : Int) = [192, 164, 202, 1, 147, 147, 60, 112, 38, 29, 108, 196, 120, 9, 241, 222] := by kernel_rfl
set_option maxRecDepth 100000 in
theorem e11c28 : endN (seedL 1) 1 ((28 : Nat) : Int) = [130, 110, 53, 83, 106, 215, 5, 175, 81, 14, 184, 197, 171, 138, 192, 17] := by kernel_rfl
set_option maxRecDepth 100000 in
theorem e11c29 : endN (seedL 1) 1 ((29 : Nat) : Int) = [11, 75, 145, 254, 48, 176, 15, 202, 159, 127, 155, 229, 6, 218, 156, 73] := by kernel_rfl
set_option maxRecDepth 100000 in
theorem e11c30 : endN (seedL 1) 1 ((30 : Nat) : Int) = [7, 104, 179, 94, 88, 36, 46, 2, 40, 139, 153, 183, 130, 222, 234, 230] := by kernel_rfl
set_option maxRecDepth 100000 in
theorem e11c31 : endN (seedL 1) 1 ((31 : Nat) : Int) = [29, 251, 42, 79, 95, 9, 73, 176, 45, 248, 63, 1, 71, 87, 236, 31] := by kernel_rfl
set_option maxRecDepth 100000 in
theorem e11c32 : endN (seedL 1) 1 ((32 : Nat) : Int) = [95, 203, 170, 231, 220, 200, 0, 7, 74, 41, 237, 165, 12, 151, 146, 103] := by kernel_rfl
set_option maxRecDepth 100000 in
theorem e11c33 : endN (seedL 1) 1 ((33 : Nat) : Int) = [99, 95, 244, 254, 75, 211, 141, 18, 155, 185, 180, 243, 109, 191, 57, 80] := by kernel_rfl
set_option maxRecDepth 100000 in
theorem e11c34 : endN (seedL 1) 1 ((34 : Nat) : Int) = [150, 177, 0, 199, 98, 162, 134, 161, 140, 188, 236, 94, 199, 40, 185, 13] := by kernel_rfl
theorem ends11 : endsN (seedL 1) 1 35 = [[60, 182, 248, 71, 112, 140, 99, 112, 47, 139, 200, 123, 49, 153, 37, 212], [219, 232, 18, 102, 135, 1, 91, 74, 151, 238, 70, 237, 165, 90, 62, 134], [40, 141, 97, 151, 160, 215, 68, 208, 5, 144, 5, 204, 229, 71, 10, 12], [212, 144, 73, 2, 167, 150, 188, 199, 141, 187, 39, 215, 19, 48, 156, 72], [48, 95, 202, 82, 195, 200, 237, 104, 144, 23, 78, 174, 200, 156, 29, 143], [208, 40, 7, 11, 196, 47, 221, 57, 58, 195, 247, 148, 233, 101, 151, 247], [123, 180, 128, 53, 61, 229, 136, 123, 79, 171, 183, 13, 180, 121, 205, 16], [112, 116, 14, 118, 220, 186, 76, 95, 0, 33, 205, 74, 62, 219, 214, 252], [163, 150, 72, 31, 218, 52, 206, 32, 249, 37, 4, 192, 66, 196, 249, 6], [47, 222, 45, 209, 95, 231, 161, 247, 93, 30, 244, 165, 163, 233, 235, 67], [28, 181, 50, 147, 220, 33, 45, 166, 185, 51, 220, 233, 66, 92, 176, 48], [17, 76, 207, 155, 88, 90, 86, 161, 218, 184, 196, 212, 131, 83, 53, 92], [68, 213, 45, 8, 65, 83, 74, 143, 14, 68, 108, 248, 140, 196, 31, 249], [6, 101, 4, 24, 82, 184, 245, 188, 161, 130, 143, 23, 133, 154, 20, 126], [222, 237, 224, 4, 67, 253, 190, 29, 55, 217, 190, 105, 224, 29, 216, 159], [98, 29, 104, 174, 154, 128, 11, 25, 91, 139, 58, 56, 177, 212, 173, 225], [98, 77, 162, 32, 19, 86, 37, 44, 243, 117, 189, 97, 73, 202, 157, 133], [82, 91, 200, 166, 196, 237, 239, 24, 176, 25, 116, 127, 227, 227, 106, 187], [3, 206, 54, 170, 131, 92, 141, 17, 198, 255, 74, 238, 211, 25, 32, 178], [23, 3, 143, 238, 176, 180, 202, 125, 218, 142, 60, 81, 189, 200, 88, 22], [199, 70, 164, 186, 185, 83, 74, 13, 16, 55, 174, 10, 131, 67, 65, 212], [85, 211, 180, 167, 165, 87, 104, 220, 179, 5, 90, 131, 205, 164, 54, 21], [75, 250, 124, 86, 116, 169, 3, 9, 182, 85, 249, 130, 92, 72, 108, 178], [41, 17, 40, 131, 209, 247, 149, 138, 10, 240, 190, 125, 186, 202, 85, 195], [15, 3, 161, 121, 172, 233, 229, 35, 157, 246, 144, 145, 148, 165, 146, 192], [129, 95, 182, 239, 28, 50, 157, 12, 253, 228, 64, 75, 202, 160, 144, 55], [61, 228, 74, 157, 238, 123, 197, 70, 79, 89, 65, 89, 167, 17, 117, 92], [192, 164, 202, 1, 147, 147, 60, 112, 38, 29, 108, 196, 120, 9, 241, 222], [130, 110, 53, 83, 106, 215, 5, 175, 81, 14, 184, 197, 171, 138, 192, 17], [11, 75, 145, 254, 48, 176, 15, 202, 159, 127, 155, 229, 6, 218, 156, 73], [7, 104, 179, 94, 88, 36, 46, 2, 40, 139, 153, 183, 130, 222, 234, 230], [29, 251, 42, 79, 95, 9, 73, 176, 45, 248, 63, 1, 71, 87, 236, 31], [95, 203, 170, 231, 220, 200, 0, 7, 74, 41, 237, 165, 12, 151, 146, 103], [99, 95, 244, 254, 75, 211, 141, 18, 155, 185, 180, 243, 109, 191, 57, 80], [150, 177, 0, 199, 98, 162, 134, 161, 140, 188, 236, 94, 199, 40, 185, 13]] := by
  rw [ends_list, e11c0, e11c1, e11c2, e11c3, e11c4, e11c5, e11c6, e11c7, e11c8, e11c9, e11c10, e11c11, e11c12, e11c13, e11c14, e11c15, e11c16, e11c17, e11c18, e11c19, e11c20, e11c21, e11c22, e11c23, e11c24, e11c25, e11c26, e11c27, e11c28, e11c29, e11c30, e11c31, e11c32, e11c33, e11c34]
set_option maxRecDepth 100000 in
theorem root1 : bN (rootL (seedL 1) 1) = [98, 135, 152, 155, 11, 136, 137, 93, 240, 162, 100, 29, 79, 8, 144, 152] := by
  rw [root_N, ends10, ends11]
  kernel_rfl
set_option maxRecDepth 100000 in
theorem e20c0 : endN (seedL 2) 0 ((0 : Nat) : Int) = [239, 116, 53, 151, 247, 179, 38, 250, 79, 141, 81, 5, 213, 79, 143, 116] := by kernel_rfl
set_option maxRecDepth 100000 in
theorem e20c1 : endN (seedL 2) 0 ((1 : Nat) : Int) = [134, 211, 255, 24, 2, 134, 127, 142, 32, 7, 41, 150, 206, 98, 41, 21] := by kernel_rfl
set_option maxRecDepth 100000 in
theorem e20c2 : endN (seedL 2) 0 ((2 : Nat) : Int) = [219, 82, 199, 57, 23, 150, 231, 134, 91, 37, 179, 189, 224, 39, 226, 51] := by kernel_rfl
set_option maxRecDepth 100000 in
theorem e20c3 : endN (seedL 2) 0 ((3 : Nat) : Int) = [169, 45, 55, 90, 99, 26, 174, 142, 176, 44, 28, 110, 134, 246, 14, 183] := by kernel_rfl
set_option maxRecDepth 100000 in
theorem e20c4 : endN (seedL 2) 0 ((4 : Nat) : Int) = [56, 119, 71, 25, 38, 46, 108, 100, 180, 63, 191, 40, 171, 112, 68, 238] := by kernel_rfl
set_option maxRecDepth 100000 in
theorem e20c5 : endN (seedL 2) 0 ((5 : Nat) : Int) = [98, 154, 57, 227, 41, 94, 22, 142, 44, 113, 240, 166, 149, 4, 98, 122] := by kernel_rfl
set_option maxRecDepth 100000 in
theorem e20c6 : endN (seedL 2) 0 ((6 : Nat) : Int) = [77, 171, 6, 52, 156, 132, 224, 23, 149, 174, 70, 140, 142, 81, 15, 38] := by kernel_rfl
set_option maxRecDepth 100000 in
theorem e20c7 : endN (seedL 2) 0 ((7 : Nat) : Int) = [50, 81, 204, 187, 60, 88, 169, 61, 104, 188, 125, 79, 67, 155, 44, 45] := by kernel_rfl
set_option maxRecDepth 100000 in
theorem e20c8 : endN (seedL 2) 0 ((8 : Nat) : Int) = [230, 192, 30, 232, 108, 72, 137, 160, 162, 189, 68, 200, 28, 61, 94, 224] := by kernel_rfl
set_option maxRecDepth 100000 in
theorem e20c9 : endN (seedL 2) 0 ((9 : Nat) : Int) = [234, 199, 113, 177, 105, 250, 59, 177, 124, 77, 195, 93, 104, 101, 15, 38] := by kernel_rfl
set_option maxRecDepth 100000 in
theorem e20c10 : endN (seedL 2) 0 ((10 : Nat) : Int) = [135, 30, 4, 58, 226, 242, 81, 208, 164, 240, 151, 38, 162, 112, 212, 250] := by kernel_rfl
set_option maxRecDepth 100000 in
theorem e20c11 : endN (seedL 2) 0 ((11 : Nat) : Int) = [124, 129, 234, 187, 22, 182, 3, 119, 93, 244, 115, 37, 135, 184, 230, 3] := by kernel_rfl
set_option maxRecDepth 100000 in
theorem e20c12 : endN (seedL 2) 0 ((12 : Nat) : Int) = [52, 174, 137, 220, 116, 199, 116, 161, 72, 247, 126, 110, 5, 191, 222, 240] := by kernel_rfl
set_option maxRecDepth 100000 in
theorem e20c13 : endN (seedL 2) 0 ((13 : Nat) : Int) = [148, 103, 245, 15, 171, 92, 113, 84, 168, 240, 0, 154, 175, 87, 59, 179] := by kernel_rfl
set_option maxRecDepth 100000 in
theorem e20c14 : endN (seedL 2) 0 ((14 : Nat) : Int) = [147, 13, 248, 74, 59, 119, 21, 2, 179, 76, 186, 183, 248, 254, 178, 16] := by kernel_rfl
set_option maxRecDepth 100000 in
theorem e20c15 : endN (seedL 2) 0 ((15 : Nat) : Int) = [81, 23, 136, 178, 25, 215, 124, 38, 115, 221, 153, 246, 44, 110, 104, 81] := by kernel_rfl
set_option maxRecDepth 100000 in
theorem e20c16 : endN (seedL 2) 0 ((16 : Nat) : Int) = [194, 177, 172, 73, 8, 167, 146, 220, 9, 62, 227, 47, 64, 102, 253, 29] := by kernel_rfl
set_option maxRecDepth 100000 in
theorem e20c17 : endN (seedL 2) 0 ((17 : Nat) : Int) = [124, 48, 62, 176, 156, 156, 128, 184, 249, 12, 234, 106, 173, 191, 243, 232] := by kernel_rfl
set_option maxRecDepth 100000 in
theorem e20c18 : endN (seedL 2) 0 ((18 : Nat) : Int) = [177, 201, 79, 31, 107, 124, 9, 225, 236, 2, 110, 95, 236, 253, 194, 250] := by kernel_rfl
set_option maxRecDepth 100000 in
theorem e20c19 : endN (seedL 2) 0 ((19 : Nat) : Int) = [184, 2, 176, 231, 133, 185, 168, 226, 110, 93, 232, 148, 197, 42, 164, 217] := by kernel_rfl
set_option maxRecDepth 100000 in
theorem e20c20 : endN (seedL 2) 0 ((20 : Nat) : Int) = [42, 206, 173, 200, 175, 20, 42, 199, 16, 155, 66, 255, 77, 125, 43, 187] := by kernel_rfl
set_option maxRecDepth 100000 in
theorem e20c21 : endN (seedL 2) 0 ((21 : Nat) : Int) = [190, 32, 19, 130, 155, 78, 114, 76, 180, 129, 94, 41, 192, 1, 194, 98] := by kernel_rfl
set_option maxRecDepth 100000 in
theorem e20c22 : endN (seedL 2) 0 ((22 : Nat) : Int) = [40, 172, 194, 15, 88, 245, 21, 27, 46, 250, 177, 224, 247, 123, 244, 71] := by kernel_rfl
set_option maxRecDepth 100000 in
theorem e20c23 : endN (seedL 2) 0 ((23 : Nat) : Int) = [159, 67, 9, 180, 112, 194, 156, 4, 80, 150, 213, 161, 115, 72, 162, 237] := by kernel_rfl
set_option maxRecDepth 100000 in
theorem e20c24 : endN (seedL 2) 0 ((24 : Nat) : Int) = [213, 111, 130, 3, 38, 11, 84, 1, 7, 101, 84, 58, 24, 137, 247, 252] := by kernel_rfl
set_option maxRecDepth 100000 in
theorem e20c25 : endN (seedL 2) 0 ((25 : Nat) : Int) = [206, 139, 202, 235, 221, 244, 166, 57, 72, 54, 248, 59, 9, 26, 21, 182] := by kernel_rfl
set_option maxRecDepth 100000 in
theorem e20c26 : endN (seedL 2) 0 ((26 : Nat) : Int) = [8, 107, 195, 130, 34, 65, 0, 148, 167, 7, 178, 101, 189, 211, 234, 225] := by kernel_rfl
set_option maxRecDepth 100000 in
theorem e20c27 : endN (seedL 2) 0 ((27 : Nat) : Int) = [195, 180, 41, 197, 121, 136, 119, 157, 100, 34, 40, 174, 144, 217, 108, 224] := by kernel_rfl
set_option maxRecDepth 100000 in
theorem e20c28 : endN (seedL 2) 0 ((28 : Nat) : Int) = [57, 174, 58, 116, 42, 209, 201, 59, 91, 63, 116, 131, 138, 26, 88, 228] := by kernel_rfl
set_option maxRecDepth 100000 in
theorem e20c29 : endN (seedL 2) 0 ((29 : Nat) : Int) = [109, 1, 74, 214, 114, 219, 32, 191, 99, 157, 120, 249, 233, 192, 2, 227] := by kernel_rfl
set_option maxRecDepth 100000 in
theorem e20c30 : endN (seedL 2) 0 ((30 : Nat) : Int) = [79, 95, 68, 86, 130, 224, 202, 235, 244, 184, 202, 203, 178, 224, 181, 136] := by kernel_rfl
set_option maxRecDepth 100000 in
theorem e20c31 : endN (seedL 2) 0 ((31 : Nat) : Int) = [206, 55, 79, 93, 82, 165, 38, 157, 122, 234, 37, 93, 30, 253, 149, 91] := by kernel_rfl
set_option maxRecDepth 100000 in
theorem e20c32 : endN (seedL 2) 0 ((32 : Nat) : Int) = [100, 141, 93, 203, 102, 232, 200, 197, 115, 238, 65, 171, 214, 185, 179, 126] := by kernel_rfl
set_option maxRecDepth 100000 in
theorem e20c33 : endN (seedL 2) 0 ((33 : Nat) : Int) = [200, 191, 126, 49, 9, 147, 54, 163, 190, 4, 77, 210, 1, 106, 34, 52] := by kernel_rfl
set_option maxRecDepth 100000 in
theorem e20c34 : endN (seedL 2) 0 ((34 : Nat) : Int) = [69, 200, 48, 7, 228, 230, 23, 98, 134, 203, 10, 215, 147, 63, 64, 7] := by kernel_rfl
theorem ends20 : endsN (seedL 2) 0 35 = [[239, 116, 53, 151, 247, 179, 38, 250, 79, 141, 81, 5, 213, 79, 143, 116], [134, 211, 255, 24, 2, 134, 127, 142, 32, 7, 41, 150, 206, 98, 41, 21], [219, 82, 199, 57, 23, 150, 231, 134, 91, 37, 179, 189, 224, 39, 226, 51], [169, 45, 55, 90, 99, 26, 174, 142, 176, 44, 28, 110, 134, 246, 14, 183], [56, 119, 71, 25, 38, 46, 108, 100, 180, 63, 191, 40, 171, 112, 68, 238], [98, 154, 57, 227, 41, 94, 22, 142, 44, 113, 240, 166, 149, 4, 98, 122], [77, 171, 6, 52, 156, 132, 224, 23, 149, 174, 70, 140, 142, 81, 15, 38], [50, 81, 204, 187, 60, 88, 169, 61, 104, 188, 125, 79, 67, 155, 44, 45], [230, 192, 30, 232, 108, 72, 137, 160, 162, 189, 68, 200, 28, 61, 94, 224], [234, 199, 113, 177, 105, 250, 59, 177, 124, 77, 195, 93, 104, 101, 15, 38], [135, 30, 4, 58, 226, 242, 81, 208, 164, 240, 151, 38, 162, 112, 212, 250], [124, 129, 234, 187, 22, 182, 3, 119, 93, 244, 115, 37, 135, 184, 230, 3], [52, 174, 137, 220, 116, 199, 116, 161, 72, 247, 126, 110, 5, 191, 222, 240], [148, 103, 245, 15, 171, 92, 113, 84, 168, 240, 0, 154, 175, 87, 59, 179], [147, 13, 248, 74, 59, 119, 21, 2, 179, 76, 186, 183, 248, 254, 178, 16], [81, 23, 136, 178, 25, 215, 124, 38, 115, 221, 153, 246, 44, 110, 104, 81], [194, 177, 172, 73, 8, 167, 146, 220, 9, 62, 227, 47, 64, 102, 253, 29], [124, 48, 62, 176, 156, 156, 128, 184, 249, 12, 234, 106, 173, 191, 243, 232], [177, 201, 79, 31, 107, 124, 9, 225, 236, 2, 110, 95, 236, 253, 194, 250], [184, 2, 176, 231, 133, 185, 168, 226, 110, 93, 232, 148, 197, 42, 164, 217], [42, 206, 173, 200, 175, 20, 42, 199, 16, 155, 66, 255, 77, 125, 43, 187], [190, 32, 19, 130, 155, 78, 114, 76, 180, 129, 94, 41, 192, 1, 194, 98], [40, 172, 194, 15, 88, 245, 21, 27, 46, 250, 177, 224, 247, 123, 244, 71], [159, 67, 9, 180, 112, 194, 156, 4, 80, 150, 213, 161, 115, 72, 162, 237], [213, 111, 130, 3, 38, 11, 84, 1, 7, 101, 84, 58, 24, 137, 247, 252], [206, 139, 202, 235, 221, 244, 166, 57, 72, 54, 248, 59, 9, 26, 21, 182], [8, 107, 195, 130, 34, 65, 0, 148, 167, 7, 178, 101, 189, 211, 234, 225], [195, 180, 41, 197, 121, 136, 119, 157, 100, 34, 40, 174, 144, 217, 108, 224], [57, 174, 58, 116, 42, 209, 201, 59, 91, 63, 116, 131, 138, 26, 88, 228], [109, 1, 74, 214, 114, 219, 32, 191, 99, 157, 120, 249, 233, 192, 2, 227], [79, 95, 68, 86, 130, 224, 202, 235, 244, 184, 202, 203, 178, 224, 181, 136], [206, 55, 79, 93, 82, 165, 38, 157, 122, 234, 37, 93, 30, 253, 149, 91], [100, 141, 93, 203, 102, 232, 200, 197, 115, 238, 65, 171, 214, 185, 179, 126], [200, 191, 126, 49, 9, 147, 54, 163, 190, 4, 77, 210, 1, 106, 34, 52], [69, 200, 48, 7, 228, 230, 23, 98, 134, 203, 10, 215, 147, 63, 64, 7]] := by
  rw [ends_list, e20c0, e20c1, e20c2, e20c3, e20c4, e20c5, e20c6, e20c7, e20c8, e20c9, e20c10, e20c11, e20c12, e20c13, e20c14, e20c15, e20c16, e20c17, e20c18, e20c19, e20c20, e20c21, e20c22, e20c23, e20c24, e20c25, e20c26, e20c27, e20c28, e20c29, e20c30, e20c31, e20c32, e20c33, e20c34]
set_option maxRecDepth 100000 in
theorem e21c0 : endN (seedL 2) 1 ((0 : Nat) : Int) = [248, 112, 48, 58, 101, 107, 213, 239, 194, 229, 225, 112, 181, 202, 107, 224] := by kernel_rfl
set_option maxRecDepth 100000 in
theorem e21c1 : endN (seedL 2) 1 ((1 : Nat) : Int) = [218, 227, 110, 86, 13, 230, 26, 249, 2, 25, 134, 206, 216, 193, 110, 62] := by kernel_rfl
set_option maxRecDepth 100000 in
theorem e21c2 : endN (seedL 2) 1 ((2 : Nat) : Int) = [147, 68, 152, 115, 66, 55, 97, 28, 124, 83, 99, 219, 139, 172, 1, 75] := by kernel_rfl
set_option maxRecDepth 100000 in
theorem e21c3 : endN (seedL 2) 1 ((3 : Nat) : Int) = [3, 246, 168, 98, 236, 83, 159, 69, 253, 192, 228, 88, 211, 34, 223, 122] := by kernel_rfl
set_option maxRecDepth 100000 in
theorem e21c4 : endN (seedL 2) 1 ((4 : Nat) : Int) = [227, 185, 215, 192, 151, 229, 212, 244, 113, 62, 109, 13, 69, 69, 211, 145] := by kernel_rfl
set_option maxRecDepth 100000 in
theorem e21c5 : endN (seedL 2) 1 ((5 : Nat) : Int) = [10, 49, 96, 108, 252, 235, 235, 181, 215, 196, 47, 241, 79, 251, 162, 12] := by kernel_rfl
set_option maxRecDepth 100000 in
theorem e21c6 : endN (seedL 2) 1 ((6 : Nat) : Int) = [151, 111, 210, 236, 195, 149, 51, 159, 105, 85, 23, 184, 99, 143, 47, 225] := by kernel_rfl
set_option maxRecDepth 100000 in
theorem e21c7 : endN (seedL 2) 1 ((7 : Nat) : Int) = [83, 72, 189, 196, 127, 214, 103, 62, 152, 221, 232, 13, 122, 49, 208, 208] := by kernel_rfl
set_option maxRecDepth 100000 in
theorem e21c8 : endN (seedL 2) 1 ((8 : Nat) : Int) = [133, 10, 130, 127, 179, 195, 177, 21, 236, 153, 17, 215, 21, 138, 193, 235] := by kernel_rfl
set_option maxRecDepth 100000 in
theorem e21c9 : endN (seedL 2) 1 ((9 : Nat) : Int) = [141, 84, 128, 205, 202, 141, 44, 108, 24, 51, 12, 55, 246, 79, 163, 72] := by kernel_rfl
set_option maxRecDepth 100000 in
theorem e21c10 : endN (seedL 2) 1 ((10 : Nat) : Int) = [116, 144, 138, 48, 75, 144, 3, 119, 125, 48, 229, 19, 16, 219, 28, 211] := by kernel_rfl
set_option maxRecDepth 100000 in
theorem e21c11 : endN (seedL 2) 1 ((11 : Nat) : Int) = [218, 145, 193, 11, 85, 205, 76, 55, 153, 153, 11, 252, 154, 83, 81, 45] := by kernel_rfl
set_option maxRecDepth 100000 in
theorem e21c12 : endN (seedL 2) 1 ((12 : Nat) : Int) = [25, 203, 190, 111, 144, 36, 89, 83, 175, 231, 13, 17, 24, 154, 78, 236] := by kernel_rfl
set_option maxRecDepth 100000 in
theorem e21c13 : endN (seedL 2) 1 ((13 : Nat) : Int) = [126, 251, 5, 206, 148, 135, 8, 243, 211, 66, 133, 151, 180, 174, 79, 176] := by kernel_rfl
set_option maxRecDepth 100000 in
theorem e21c14 : endN (seedL 2) 1 ((14 : Nat) : Int) = [250, 181, 42, 104, 107, 178, 29, 123, 85, 167, 96, 182, 129, 99, 180, 107] := by kernel_rfl
set_option maxRecDepth 100000 in
theorem e21c15 : endN (seedL 2) 1 ((15 : Nat) : Int) = [146, 20, 120, 123, 4, 99, 212, 7, 92, 156, 50, 165, 56, 186, 175, 228] := by kernel_rfl
set_option maxRecDepth 100000 in
theorem e21c16 : endN (seedL 2) 1 ((16 : Nat) : Int) = [237, 245, 166, 252, 41, 108, 12, 141, 30, 1, 238, 22, 138, 223, 238, 165] := by kernel_rfl
set_option maxRecDepth 100000 in
theorem e21c17 : endN (seedL 2) 1 ((17 : Nat) : Int) = [157, 120, 206, 183, 7, 80, 94, 7, 91, 185, 44, 162, 208, 175, 100, 235] := by kernel_rfl
set_option maxRecDepth 100000 in
theorem e21c18 : endN (seedL 2) 1 ((18 : Nat) : Int) = [251, 147, 138, 178, 8, 143, 223, 22, 32, 44, 174, 239, 112, 205, 62, 193] := by kernel_rfl
set_option maxRecDepth 100000 in
theorem e21c19 : endN (seedL 2) 1 ((19 : Nat) : Int) = [8, 216, 85, 169, 244, 121, 18, 194, 4, 41, 201, 11, 57, 0, 200, 172] := by kernel_rfl
set_option maxRecDepth 100000 in
theorem e21c20 : endN (seedL 2) 1 ((20 : Nat) : Int) = [123, 106, 149, 100, 167, 112, 109, 46, 105, 9, 138, 78, 109, 216, 34, 232] := by kernel_rfl
set_option maxRecDepth 100000 in
theorem e21c21 : endN (seedL 2) 1 ((21 : Nat) : Int) = [31, 128, 128, 204, 128, 153, 194, 107, 174, 88, 153, 165, 235, 255, 92, 157] := by kernel_rfl
set_option maxRecDepth 100000 in
theorem e21c22 : endN (seedL 2) 1 ((22 : Nat) : Int) = [253, 92, 226, 152, 206, 60, 202, 122, 44, 164, 63, 185, 96, 1, 42, 66] := by kernel_rfl
set_option maxRecDepth 100000 in
theorem e21c23 : endN (seedL 2) 1 ((23 : Nat) : Int) = [135, 119, 83, 6, 103, 127, 133, 153, 214, 191, 160, 248, 42, 250, 64, 165] := by kernel_rfl
set_option maxRecDepth 100000 in
theorem e21c24 : endN (seedL 2) 1 ((24 : Nat) : Int) = [127, 243, 25, 33, 212, 82, 113, 182, 142, 60, 175, 102, 162, 62, 211, 58] := by kernel_rfl
set_option maxRecDepth 100000 in
theorem e21c25 : endN (seedL 2) 1 ((25 : Nat) : Int) = [218, 132, 238, 39, 244, 107, 16, 46, 82, 56, 40, 10, 195, 153, 193, 32] := by kernel_rfl
set_option maxRecDepth 100000 in
theorem e21c26 : endN (seedL 2) 1 ((26 : Nat) : Int) = [70, 117, 73, 124, 40, 11, 58, 35, 221, 211, 105, 190, 172, 50, 238, 93] := by kernel_rfl
set_option maxRecDepth 100000 in
theorem e21c27 : endN (seedL 2) 1 ((27 : Nat) : Int) = [223, 240, 21, 138, 174, 29, 192, 81, 108, 83, 16, 49, 91, 14, 65, 26] := by kernel_rfl
set_option maxRecDepth 100000 in
theorem e21c28 : endN (seedL 2) 1 ((28 : Nat) : Int) = [188, 137, 88, 181, 6, 49, 87, 146, 244, 237, 230, 234, 244, 218, 45, 100] := by kernel_rfl
set_option maxRecDepth 100000 in
theorem e21c29 : endN (seedL 2) 1 ((29 : Nat) : Int) = [251, 111, 50, 84, 159, 179, 134, 241, 19, 34, 134, 14, 161, 229, 175, 179] := by kernel_rfl
set_option maxRecDepth 100000 in
theorem e21c30 : endN (seedL 2) 1 ((30 : Nat) : Int) = [67, 253, 177, 209, 13, 60, 21, 95, 206, 166, 43, 83, 174, 185, 244, 223] := by kernel_rfl
set_option maxRecDepth 100000 in
theorem e21c31 : endN (seedL 2) 1 ((31 : Nat) : Int) = [38, 42, 140, 147, 165, 8, 122, 158, 123, 230, 81, 133, 172, 156, 3, 116] := by kernel_rfl
set_option maxRecDepth 100000 in
theorem e21c32 : endN (seedL 2) 1 ((32 : Nat) : Int) = [64, 144, 33, 148, 58, 118, 48, 145, 243, 87, 113, 242, 187, 140, 2, 81] := by kernel_rfl
set_option maxRecDepth 100000 in
theorem e21c33 : endN (seedL 2) 1 ((33 : Nat) : Int) = [92, 42, 155, 163, 159, 58, 215, 209, 36, 176, 180, 85, 34, 53, 76, 184] := by kernel_rfl
set_option maxRecDepth 100000 in
theorem e21c34 : endN (seedL 2) 1 ((34 : Nat) : Int) = [248, 242, 64, 24, 111, 15, 18, 125, 198, 245, 241, 227, 66, 57, 52, 33] := by kernel_rfl
theorem ends21 : endsN (seedL 2) 1 35 = [[248, 112, 48, 58, 101, 107, 213, 239, 194, 229, 225, 112, 181, 202, 107, 224], [218, 227, 110, 86, 13, 230, 26, 249, 2, 25, 134, 206, 216, 193, 110, 62], [147, 68, 152, 115, 66, 55, 97, 28, 124, 83, 99, 219, 139, 172, 1, 75], [3, 246, 168, 98, 236, 83, 159, 69, 253, 192, 228, 88, 211, 34, 223, 122], [227, 185, 215, 192, 151, 229, 212, 244, 113, 62, 109, 13, 69, 69, 211, 145], [10, 49, 96, 108, 252, 235, 235, 181, 215, 196, 47, 241, 79, 251, 162, 12], [151, 111, 210, 236, 195, 149, 51, 159, 105, 85, 23, 184, 99, 143, 47, 225], [83, 72, 189, 196, 127, 214, 103, 62, 152, 221, 232, 13, 122, 49, 208, 208], [133, 10, 130, 127, 179, 195, 177, 21, 236, 153, 17, 215, 21, 138, 193, 235], [141, 84, 128, 205, 202, 141, 44, 108, 24, 51, 12, 55, 246, 79, 163, 72], [116, 144, 138, 48, 75, 144, 3, 119, 125, 48, 229, 19, 16, 219, 28, 211], [218, 145, 193, 11, 85, 205, 76, 55, 153, 153, 11, 252, 154, 83, 81, 45], [25, 203, 190, 111, 144, 36, 89, 83, 175, 231, 13, 17, 24, 154, 78, 236], [126, 251, 5, 206, 148, 135, 8, 243, 211, 66, 133, 151, 180, 174, 79, 176], [250, 181, 42, 104, 107, 178, 29, 123, 85, 167, 96, 182, 129, 99, 180, 107], [146, 20, 120, 123, 4, 99, 212, 7, 92, 156, 50, 165, 56, 186, 175, 228], [237, 245, 166, 252, 41, 108, 12, 141, 30, 1, 238, 22, 138, 223, 238, 165], [157, 120, 206, 183, 7, 80, 94, 7, 91, 185, 44, 162, 208, 175, 100, 235], [251, 147, 138, 178, 8, 143, 223, 22, 32, 44, 174, 239, 112, 205, 62, 193], [8, 216, 85, 169, 244, 121, 18, 194, 4, 41, 201, 11, 57, 0, 200, 172], [123, 106, 149, 100, 167, 112, 109, 46, 105, 9, 138, 78, 109, 216, 34, 232], [31, 128, 128, 204, 128, 153, 194, 107, 174, 88, 153, 165, 235, 255, 92, 157], [253, 92, 226, 152, 206, 60, 202, 122, 44, 164, 63, 185, 96, 1, 42, 66], [135, 119, 83, 6, 103, 127, 133, 153, 214, 191, 160, 248, 42, 250, 64, 165], [127, 243, 25, 33, 212, 82, 113, 182, 142, 60, 175, 102, 162, 62, 211, 58], [218, 132, 238, 39, 244, 107, 16, 46, 82, 56, 40, 10, 195, 153, 193, 32], [70, 117, 73, 124, 40, 11, 58, 35, 221, 211, 105, 190, 172, 50, 238, 93], [223, 240, 21, 138, 174, 29, 192, 81, 108, 83, 16, 49, 91, 14, 65, 26], [188, 137, 88, 181, 6, 49, 87, 146, 244, 237, 230, 234, 244, 218, 45, 100], [251, 111, 50, 84, 159, 179, 134, 241, 19, 34, 134, 14, 161, 229, 175, 179], [67, 253, 177, 209, 13, 60, 21, 95, 206, 166, 43, 83, 174, 185, 244, 223], [38, 42, 140, 147, 165, 8, 122, 158, 123, 230, 81, 133, 172, 156, 3, 116], [64, 144, 33, 148, 58, 118, 48, 145, 243, 87, 113, 242, 187, 140, 2, 81], [92, 42, 155, 163, 159, 58, 215, 209, 36, 176, 180, 85, 34, 53, 76, 184], [248, 242, 64, 24, 111, 15, 18, 125, 198, 245, 241, 227, 66, 57, 52, 33]] := by
  rw [ends_list, e21c0, e21c1, e21c2, e21c3, e21c4, e21c5, e21c6, e21c7, e21c8, e21c9, e21c10, e21c11, e21c12, e21c13, e21c14, e21c15, e21c16, e21c17, e21c18, e21c19, e21c20, e21c21, e21c22, e21c23, e21c24, e21c25, e21c26, e21c27, e21c28, e21c29, e21c30, e21c31, e21c32, e21c33, e21c34]
set_option maxRecDepth 100000 in
theorem root2 : bN (rootL (seedL 2) 1) = [147, 159, 192, 89, 4, 51, 62, 127, 206, 229, 66, 23, 20, 150, 135, 200] := by
  rw [root_N, ends20, ends21]
  kernel_rfl
theorem root01 : rootL (seedL 1) 1 ≠ rootL (seedL 0) 1 := fun h => absurd (root1.symm.trans ((congrArg bN h).trans root0)) (by decide)
theorem root02 : rootL (seedL 2) 1 ≠ rootL (seedL 0) 1 := fun h => absurd (root2.symm.trans ((congrArg bN h).trans root0)) (by decide)
end Go.Proofs.YtadhbnleahipaaaGreatDoor
