/- The text of a roof, as bytes. No program here. -/
import Derived.Test.YtecobdnpbkojmaaCode
import Derived.Laws.BytesArg
namespace Go.Proofs.Ytecobdnpbkojmaa
set_option linter.unusedSimpArgs false
set_option linter.unusedVariables false

theorem strOf_append (a b : List Int) : strOfNums a ++ strOfNums b = strOfNums (a ++ b) := by
  apply ByteArray.ext
  simp [strOfNums]
theorem strOf_nil : strOfNums [] = ({ data := #[] } : ByteArray) := rfl
theorem strOf_dash : ({ data := #[45] } : ByteArray) = strOfNums [45] := by rfl
theorem strOf_end : ({ data := #[10] } : ByteArray) = strOfNums [10] := by rfl
/-- The byte of a kind. -/
def kB (k : Int) : Int := if k = 0 then 46 else if k = 1 then 120 else if k = 2 then 115 else 111
/-- The bytes of the first n tiles of a course. -/
def rowB (r : Rf) (i n : Nat) : List Int := (List.range n).map fun k => kB (r.at i k)
theorem rowB_len (r : Rf) (i n : Nat) : (rowB r i n).length = n := by simp [rowB]
theorem rowB_zero (r : Rf) (i : Nat) : rowB r i 0 = [] := rfl
theorem rowB_succ (r : Rf) (i n : Nat) : rowB r i (n + 1) = rowB r i n ++ [kB (r.at i n)] := by simp [rowB, List.range_succ]
def lineB (r : Rf) (i : Nat) : List Int := if shiftOf r i = 1 then [45] ++ rowB r i r.w.toNat ++ [10] else rowB r i r.w.toNat ++ [45] ++ [10]
def textB (r : Rf) (n : Nat) : List Int := (List.range n).flatMap fun i => lineB r i
theorem textB_zero (r : Rf) : textB r 0 = [] := rfl
theorem textB_succ (r : Rf) (n : Nat) : textB r (n + 1) = textB r n ++ lineB r n := by simp [textB, List.range_succ]
theorem lineB_len (r : Rf) (i : Nat) : (lineB r i).length = r.w.toNat + 2 := by
  unfold lineB; split <;> simp [rowB_len] <;> omega
theorem textB_len (r : Rf) : ∀ n, (textB r n).length = n * (r.w.toNat + 2)
  | 0 => by simp [textB]
  | n + 1 => by rw [textB_succ, List.length_append, textB_len r n, lineB_len, Nat.succ_mul]
theorem line_one {r : Rf} {i W : Nat} (h : shiftOf r i = 1) (hW : r.w.toNat = W) : strOfNums (textB r i) ++ (({ data := #[45] } : ByteArray) ++ strOfNums (rowB r i W) ++ ({ data := #[10] } : ByteArray)) = strOfNums (textB r (i + 1)) := by
  rw [strOf_dash, strOf_end, strOf_append, strOf_append, strOf_append, textB_succ]
  unfold lineB
  rw [if_pos h, hW]
theorem line_zero {r : Rf} {i W : Nat} (h : shiftOf r i = 0) (hW : r.w.toNat = W) : strOfNums (textB r i) ++ (strOfNums (rowB r i W) ++ ({ data := #[45] } : ByteArray) ++ ({ data := #[10] } : ByteArray)) = strOfNums (textB r (i + 1)) := by
  rw [strOf_dash, strOf_end, strOf_append, strOf_append, strOf_append, textB_succ]
  unfold lineB
  rw [if_neg (by omega), hW]
def preB (r : Rf) (i : Nat) : List Int := if shiftOf r i = 1 then textB r i ++ [45] else textB r i
theorem preB_len (r : Rf) (i : Nat) : (preB r i).length ≤ i * (r.w.toNat + 2) + 1 := by
  unfold preB; split <;> simp [textB_len]
theorem pre_one {r : Rf} {i : Nat} (h : shiftOf r i = 1) : strOfNums (textB r i) ++ ({ data := #[45] } : ByteArray) = strOfNums (preB r i ++ rowB r i 0) := by
  unfold preB
  rw [if_pos h, strOf_dash, strOf_append, rowB_zero, List.append_nil]
theorem pre_zero {r : Rf} {i : Nat} (h : shiftOf r i = 0) : strOfNums (textB r i) = strOfNums (preB r i ++ rowB r i 0) := by
  unfold preB
  rw [if_neg (by omega), rowB_zero, List.append_nil]
theorem row_step (r : Rf) (i j : Nat) : strOfNums (preB r i ++ rowB r i j) ++ strOfNums [kB (r.at i j)] = strOfNums (preB r i ++ rowB r i (j + 1)) := by
  rw [strOf_append, rowB_succ, List.append_assoc]
theorem end_one {r : Rf} {i W : Nat} (h : shiftOf r i = 1) (hW : r.w.toNat = W) : strOfNums (preB r i ++ rowB r i W) ++ ({ data := #[10] } : ByteArray) = strOfNums (textB r (i + 1)) := by
  unfold preB
  rw [if_pos h, strOf_end, strOf_append, textB_succ]
  unfold lineB
  rw [if_pos h, hW]
  simp
theorem end_zero {r : Rf} {i W : Nat} (h : shiftOf r i = 0) (hW : r.w.toNat = W) : strOfNums (preB r i ++ rowB r i W) ++ ({ data := #[45] } : ByteArray) ++ ({ data := #[10] } : ByteArray) = strOfNums (textB r (i + 1)) := by
  unfold preB
  rw [if_neg (by omega), strOf_dash, strOf_end, strOf_append, strOf_append, textB_succ]
  unfold lineB
  rw [if_neg (by omega), hW]
  simp
/-- The numbers of one course. -/
def rowN (r : Rf) (i n : Nat) : List Int := (List.range n).map fun k => r.at i k
theorem rowN_len (r : Rf) (i n : Nat) : (rowN r i n).length = n := by simp [rowN]
theorem rowN_map (r : Rf) (i n : Nat) : (rowN r i n).map kB = rowB r i n := by simp [rowN, rowB]
def textV (r : Rf) : ByteArray := if validB r = true then strOfNums (textB r r.h.toNat) else { data := #[] }
end Go.Proofs.Ytecobdnpbkojmaa
