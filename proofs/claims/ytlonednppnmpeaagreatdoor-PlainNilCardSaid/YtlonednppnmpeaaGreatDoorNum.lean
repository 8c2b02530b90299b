/- PH: numbers: wrapping, bits. -/
import Derived.Test.YtlonednppnmpeaaGreatDoorStep
set_option linter.all false
namespace Go.PH
open Go
theorem wu8 {x : Int} (h : 0 ≤ x) (h' : x < 256) : IntKind.u8.wrap x = x := by rw [IntKind.wrap_u8]; omega
theorem wi32 {x : Int} (h : -2147483648 ≤ x) (h' : x < 2147483648) : IntKind.i32.wrap x = x := by rw [IntKind.wrap_i32]; omega
theorem bt_lt (s : ByteArray) (i : Int) : 0 ≤ bt s i ∧ bt s i < 256 := by
  unfold bt
  split
  · rename_i h
    have := (s[i.toNat]'h).toNat_lt
    omega
  · omega
/-- A number's low bits, put beside a shifted one. -/
theorem or_low {k : Nat} {a b : Int} {n : Nat} (ha : 0 ≤ a) (hb : 0 ≤ b) (hb' : b < 2 ^ k) (hab : a * 2 ^ k + b < 2 ^ n) : ((BitVec.ofInt n (a * 2 ^ k) ||| BitVec.ofInt n b).toNat : Int) = a * 2 ^ k + b := by
  obtain ⟨m, rfl⟩ := Int.eq_ofNat_of_zero_le ha
  obtain ⟨l, rfl⟩ := Int.eq_ofNat_of_zero_le hb
  have hl : l < 2 ^ k := by exact_mod_cast hb'
  have hs : m * 2 ^ k + l < 2 ^ n := by exact_mod_cast hab
  have e1 : ((m : Int) * 2 ^ k) = ((m * 2 ^ k : Nat) : Int) := by push_cast; rfl
  rw [e1, BitVec.ofInt_natCast, BitVec.ofInt_natCast, BitVec.toNat_or, BitVec.toNat_ofNat, BitVec.toNat_ofNat, Nat.mod_eq_of_lt (by omega), Nat.mod_eq_of_lt (by omega)]
  have := Nat.shiftLeft_add_eq_or_of_lt hl m
  rw [Nat.shiftLeft_eq] at this
  rw [← this]
  push_cast
  rfl
end Go.PH
