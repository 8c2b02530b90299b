/- PH: texts: pieces, equality. -/
import Derived.Test.YtlonednppnmpeaaGreatDoorNum
import Derived.Laws.Strings
set_option linter.all false
namespace Go.PH
open Go
theorem size_ext (s : ByteArray) (a b : Nat) (h : b ≤ s.size) (hab : a ≤ b) : (s.extract a b).size = b - a := by
  rw [ByteArray.size_extract]; omega
theorem bt_nat (s : ByteArray) (i : Nat) (h : i < s.size) : bt s (i : Int) = ((s[i]'h).toNat : Int) := by
  unfold bt
  rw [dif_pos (by simpa using h)]
  rfl
theorem bt_ext (s : ByteArray) (a b i : Nat) (h : b ≤ s.size) (hi : a + i < b) : bt (s.extract a b) (i : Int) = bt s ((a + i : Nat) : Int) := by
  rw [bt_nat _ _ (by rw [size_ext s a b h (by omega)]; omega), bt_nat _ _ (by omega)]
  rw [ByteArray.getElem_extract]
theorem strEq_iff {x y : ByteArray} : strEq x y = true ↔ x = y := by
  unfold strEq
  rw [beq_iff_eq]
  constructor
  · intro h
    have : x.data.toList = y.data.toList := by
      rw [← ByteArray.toList_eq, ← ByteArray.toList_eq]; exact h
    cases x; cases y; simp at this; subst this; rfl
  · intro h; rw [h]
theorem strEq_false {x y : ByteArray} : strEq x y = false ↔ x ≠ y := by
  rw [← Bool.not_eq_true, strEq_iff]
theorem strEq_eq {x y : ByteArray} : strEq x y = decide (x = y) := by
  by_cases h : x = y
  · rw [strEq_iff.2 h]; simp [h]
  · rw [strEq_false.2 h]; simp [h]
/-- Texts are the same if their bytes are. -/
theorem bytes_ext {x y : ByteArray} (h : x.size = y.size) (hb : ∀ i : Nat, i < x.size → bt x i = bt y i) : x = y := by
  apply ByteArray.ext_getElem h
  intro i h1 h2
  have := hb i h1
  rw [bt_nat x i h1, bt_nat y i h2] at this
  exact UInt8.toNat_inj.1 (by exact_mod_cast this)
end Go.PH
