/- PH: more rules for walks. -/
import Derived.Test.YtlonednppnmpeaaGreatDoorSl
set_option linter.all false
set_option linter.unusedSimpArgs false
namespace Go.PH
open Go
theorem kont_upd {P : Program} {N b : Nat} {c : SC} {F : Exit → Env → Hp → Prop} {e : Env} {S : Hp} {o : Obj} (h : ∀ S', Upd S b o S' → kont P N c F e S') : kont P N c F e (S.set b o) := h _ ⟨LH, fun _ hm => if_neg hm⟩
theorem sC_upd {P : Program} {N b : Nat} {c : SC} {F : Exit → Env → Hp → Prop} {e : Env} {S : Hp} {o : Obj} (h : ∀ S', Upd S b o S' → sC P N c e S' F) : sC P N c e (S.set b o) F := h _ ⟨LH, fun _ hm => if_neg hm⟩
/-- A slice that is all of a block. -/
theorem SlAt_all {S : Hp} {b n : Nat} {l : List Value} {e : TypeId} {f : Nat × Nat} (h : S b = some (.cells l.toArray e f)) : SlAt S (.slice (some ⟨b, 0, none⟩) n n) n l :=
  ⟨_, _, rfl, Nat.le_refl _, fun e => (by cases e), fun q hq => (by cases hq; exact ⟨rfl, CellsAt_block (all := l) h fun j hj => by rw [show 0 + 0 + j = j by omega]⟩)⟩
theorem SlAt_cell {S : Hp} {a : Addr} {n c m i : Nat} {l : List Value} {v : Value} (h : SlAt S (.slice (some a) n c) m l) (hv : l[i]? = some v) : S.cell? (a.add i) = some v := by
  obtain ⟨a', c', e, h1, h2, h3⟩ := h
  cases e
  have := CellsAt_get (h3 a rfl).2 hv
  rwa [Nat.zero_add] at this
theorem SlAt_len {S : Hp} {a : Option Addr} {n c m : Nat} {l : List Value} (h : SlAt S (.slice a n c) m l) : n = m ∧ m ≤ c := by
  obtain ⟨a', c', e, h1, h2, h3⟩ := h
  cases e
  exact ⟨rfl, h1⟩
/-- A loop that is left in its first turn. -/
theorem loop_zero {P : Program} {N : Nat} {c : SC} {F : Exit → Env → Hp → Prop} {e : Env} {S : Hp} (h : sC P N c e S (loopI (fun _ _ => False) F)) : sC P N (.loop c) e S F := by
  refine loop_i (fun (_ : Unit) e' S' => e' = e ∧ S' = S) (fun _ => 0) () ⟨rfl, rfl⟩ ?_
  rintro _ e' S' ⟨rfl, rfl⟩
  have : (fun (e1 : Env) (S1 : Hp) => ∃ y : Unit, (fun _ : Unit => 0) y < (fun _ : Unit => 0) () ∧ e1 = e' ∧ S1 = S') = fun _ _ => False := by
    funext e1 S1
    simp
  rw [this]
  exact h
/-- A loop that is left in its second turn. -/
theorem loop_one {P : Program} {N : Nat} {c : SC} {F : Exit → Env → Hp → Prop} {e : Env} {S : Hp} (mid : Env → Hp → Prop) (h1 : sC P N c e S (loopI mid F)) (h2 : ∀ e S, mid e S → sC P N c e S (loopI (fun _ _ => False) F)) : sC P N (.loop c) e S F := by
  refine loop_i (fun (x : Bool) e' S' => (x = true ∧ e' = e ∧ S' = S) ∨ (x = false ∧ mid e' S')) (fun x => if x = true then 1 else 0) true (.inl ⟨rfl, rfl, rfl⟩) ?_
  rintro x e' S' (⟨rfl, rfl, rfl⟩ | ⟨rfl, hm⟩)
  · have : (fun (e1 : Env) (S1 : Hp) => ∃ y : Bool, (fun x : Bool => if x = true then 1 else 0) y < (fun x : Bool => if x = true then 1 else 0) true ∧ ((y = true ∧ e1 = e' ∧ S1 = S') ∨ (y = false ∧ mid e1 S1))) = mid := by
      funext e1 S1
      apply propext
      constructor
      · rintro ⟨y, h, h' | h'⟩
        · rw [h'.1] at h; simp at h
        · exact h'.2
      · intro h; exact ⟨false, by simp, .inr ⟨rfl, h⟩⟩
    rw [this]
    exact h1
  · have : (fun (e1 : Env) (S1 : Hp) => ∃ y : Bool, (fun x : Bool => if x = true then 1 else 0) y < (fun x : Bool => if x = true then 1 else 0) false ∧ ((y = true ∧ e1 = e ∧ S1 = S) ∨ (y = false ∧ mid e1 S1))) = fun _ _ => False := by
      funext e1 S1
      apply propext
      constructor
      · rintro ⟨y, h, _⟩
        cases y <;> simp at h
      · intro h; exact h.elim
    rw [this]
    exact h2 _ _ hm
theorem add_zero {a : Addr} : a.add 0 = a := if_pos rfl
theorem add_add {a : Addr} {i j : Nat} (_h : a.spot = none) : (a.add i).add j = a.add (i + j) := by
  unfold Addr.add
  by_cases hi : i = 0
  · subst hi; simp
  · by_cases hj : j = 0
    · subst hj; simp [hi]
    · simp [hi, hj, show ¬ (i + j = 0) by omega]; omega
theorem callC_upd {P : Program} {f : FuncId} {a : List Value} {rk : RK} {S : Hp} {b : Nat} {o : Obj} {K : Value → Hp → Prop} (h : ∀ S', Upd S b o S' → callC P f a rk S' K) : callC P f a rk (S.set b o) K := h _ ⟨LH, fun _ hm => if_neg hm⟩
theorem newC_upd {S : Hp} {b : Nat} {o q : Obj} {K : Nat → Hp → Prop} (h : ∀ S', Upd S b o S' → newC S' q K) : newC (S.set b o) q K := h _ ⟨LH, fun _ hm => if_neg hm⟩
theorem appC_upd {x1 x2 x3 : Nat} {z : List Value} {s x : Value} {S : Hp} {b : Nat} {o : Obj} {K : Value → Hp → Prop} (h : ∀ S', Upd S b o S' → appC x1 x2 x3 z s x S' K) : appC x1 x2 x3 z s x (S.set b o) K := h _ ⟨LH, fun _ hm => if_neg hm⟩
end Go.PH
