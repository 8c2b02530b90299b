/- PH: a calculus of partial heaps over the kit's machine. A partial heap says what some blocks hold; all else is a frame. `Sem.wpH` is the weakest precondition of an operation over a partial heap; `callWp` says what a call of a Go function does to it; both are sound for the kit's `Calls`. -/
import Derived.OrdersIn
import Derived.RangeFuncIn
import Derived.RangeFuncLeaves
set_option linter.all false
namespace Go.PH
open Go

abbrev Hp := Nat → Option Obj

def Hp.In (S : Hp) (w : World) : Prop := ∀ n o, S n = some o → w.heap[n]? = some o
def Hp.le (S T : Hp) : Prop := ∀ n o, S n = some o → T n = some o
def Hp.set (S : Hp) (n : Nat) (o : Obj) : Hp := fun m => if m = n then some o else S m

def ocell (o : Obj) (a : Addr) : Option Value :=
  match o with
  | .cells c _ _ => if a.spot.isSome then none else c[a.off]?
  | _ => none
def ofrozen (o : Obj) (a : Addr) : Bool :=
  match o with
  | .cells _ _ (lo, hi) => lo ≤ a.off && a.off < hi
  | _ => false
def oput (o : Obj) (a : Addr) (v : Value) : Obj :=
  match o with
  | .cells c elem frozen => .cells (if a.spot.isSome then c else c.setIfInBounds a.off v) elem frozen
  | o => o
def oshape (o : Obj) : Option (TypeId × Nat) :=
  match o with
  | .cells c elem _ => some (elem, c.size)
  | _ => none
def ofreeze (o : Obj) (a : Addr) (n : Nat) : Obj :=
  if n = 0 then o else match o with
  | .cells c elem (lo, hi) => .cells c elem (if lo == hi then (a.off, a.off + n) else (min lo a.off, max hi (a.off + n)))
  | o => o
def oplain (o : Obj) : Bool := match o with | .cells .. => false | _ => true
def vplain (v : Value) : Bool := match v with | .agg _ => false | .tuple _ => false | _ => true

def Hp.cell? (S : Hp) (a : Addr) : Option Value := (S a.block).bind fun o => ocell o a

structure Step (S : Hp) (w : World) (S' : Hp) (w' : World) : Prop where
  inn : S'.In w'
  size : w.heap.size ≤ w'.heap.size
  frame : ∀ n, n < w.heap.size → S n = none → w'.heap[n]? = w.heap[n]? ∧ S' n = none
  os : w'.os = w.os
  tape : w'.tape = w.tape
  output : w'.output = w.output

theorem Step.refl {S : Hp} {w : World} (h : S.In w) : Step S w S w := ⟨h, Nat.le_refl _, fun _ _ hn => ⟨rfl, hn⟩, rfl, rfl, rfl⟩
theorem Step.trans {S S1 S2 : Hp} {w w1 w2 : World} (h : Step S w S1 w1) (k : Step S1 w1 S2 w2) : Step S w S2 w2 :=
  ⟨k.inn, Nat.le_trans h.size k.size, fun n hn hs => by
    obtain ⟨e1, n1⟩ := h.frame n hn hs
    obtain ⟨e2, n2⟩ := k.frame n (Nat.lt_of_lt_of_le hn h.size) n1
    exact ⟨e2.trans e1, n2⟩, k.os.trans h.os, k.tape.trans h.tape, k.output.trans h.output⟩
theorem Step.drop {S S1 S2 : Hp} {w w1 : World} (h : Step S w S1 w1) (hl : S2.le S1) : Step S w S2 w1 :=
  ⟨fun n o hn => h.inn n o (hl n o hn), h.size, fun n hn hs => by
    obtain ⟨e1, n1⟩ := h.frame n hn hs
    refine ⟨e1, ?_⟩
    cases h2 : S2 n with
    | none => rfl
    | some o => rw [hl n o h2] at n1; (cases n1), h.os, h.tape, h.output⟩
theorem Step.of_le {S0 S S1 : Hp} {w w1 : World} (h : Step S0 w S1 w1) (hl : S0.le S) : Step S w S1 w1 :=
  ⟨h.inn, h.size, fun n hn hs => h.frame n hn (by
    cases h2 : S0 n with
    | none => rfl
    | some o => rw [hl n o h2] at hs; cases hs), h.os, h.tape, h.output⟩
theorem Step.drawn {S : Hp} {w : World} (h : S.In w) (d : Nat) : Step S w S { w with drawn := d } := ⟨h, Nat.le_refl _, fun _ _ hn => ⟨rfl, hn⟩, rfl, rfl, rfl⟩

theorem Hp.le_refl (S : Hp) : S.le S := fun _ _ h => h
theorem Hp.le_trans {S T U : Hp} (h : S.le T) (k : T.le U) : S.le U := fun n o hn => k n o (h n o hn)
theorem Hp.le_set {S : Hp} {r : Nat} {o : Obj} (hr : S r = none) : S.le (S.set r o) := fun n o' hn => by
  unfold Hp.set
  split
  · rename_i h; subst h; rw [hr] at hn; cases hn
  · exact hn

theorem In_cell {S : Hp} {w : World} (h : S.In w) {a : Addr} {v : Value} (hc : S.cell? a = some v) : w.cell? a = some v := by
  unfold Hp.cell? at hc
  cases hs : S a.block with
  | none => rw [hs] at hc; cases hc
  | some o =>
    rw [hs] at hc
    have := h _ _ hs
    unfold World.cell?
    rw [this]
    cases o <;> simp_all [ocell]
theorem In_frozen {S : Hp} {w : World} (h : S.In w) {a : Addr} {o : Obj} (hs : S a.block = some o) : w.frozen? a = ofrozen o a := by
  unfold World.frozen?
  rw [h _ _ hs]
  cases o <;> simp [ofrozen]
theorem In_shape {S : Hp} {w : World} (h : S.In w) {r : Nat} {o : Obj} (hs : S r = some o) : w.shape? r = oshape o := by
  unfold World.shape?
  rw [h _ _ hs]
  cases o <;> simp [oshape]
theorem In_lt {S : Hp} {w : World} (h : S.In w) {r : Nat} {o : Obj} (hs : S r = some o) : r < w.heap.size :=
  (Array.getElem?_eq_some_iff.1 (h _ _ hs)).1
theorem In_fresh {S : Hp} {w : World} (h : S.In w) {r : Nat} (hr : w.heap.size ≤ r) : S r = none := by
  cases hs : S r with
  | none => rfl
  | some o => exact absurd (In_lt h hs) (by omega)

theorem Step.modify {S : Hp} {w : World} (h : S.In w) {r : Nat} {o o' : Obj} (hs : S r = some o) {w' : World}
    (hh : w'.heap = w.heap.setIfInBounds r o') (ho : w'.os = w.os) (ht : w'.tape = w.tape) (hu : w'.output = w.output) : Step S w (S.set r o') w' := by
  refine ⟨?_, by rw [hh]; simp, ?_, ho, ht, hu⟩
  · intro n q hn
    rw [hh]
    unfold Hp.set at hn
    split at hn
    · rename_i e; subst e
      cases hn
      rw [Array.getElem?_setIfInBounds]
      simp [In_lt h hs]
    · rename_i e
      rw [Array.getElem?_setIfInBounds, if_neg (fun e' => e e'.symm)]
      exact h n q hn
  · intro n hn hsn
    have hne : n ≠ r := fun e => by subst e; rw [hs] at hsn; cases hsn
    rw [hh, Array.getElem?_setIfInBounds, if_neg (fun e => hne e.symm)]
    refine ⟨rfl, ?_⟩
    unfold Hp.set
    rw [if_neg hne]
    exact hsn
theorem modify_set (xs : Array Obj) (r : Nat) (f : Obj → Obj) (o : Obj) (h : xs[r]? = some o) : xs.modify r f = xs.setIfInBounds r (f o) := by
  apply Array.ext_getElem?
  intro i
  rw [Array.getElem?_modify, Array.getElem?_setIfInBounds]
  obtain ⟨hlt, hv⟩ := Array.getElem?_eq_some_iff.1 h
  split
  · rename_i e; subst e
    simp [hlt, hv]
  · rfl
theorem Step.new {S : Hp} {w : World} (h : S.In w) (o : Obj) {w' : World} (hh : w'.heap = w.heap.push o) (ho : w'.os = w.os) (ht : w'.tape = w.tape) (hu : w'.output = w.output) :
    Step S w (S.set w.heap.size o) w' := by
  refine ⟨?_, by rw [hh]; simp, ?_, ho, ht, hu⟩
  · intro n q hn
    rw [hh]
    unfold Hp.set at hn
    split at hn
    · rename_i e; subst e
      cases hn
      simp
    · rename_i e
      have := h n q hn
      have hlt := In_lt h hn
      rw [Array.getElem?_push, if_neg e]
      exact this
  · intro n hn hsn
    rw [hh, Array.getElem?_push, if_neg (by omega)]
    refine ⟨rfl, ?_⟩
    unfold Hp.set
    rw [if_neg (by omega)]
    exact hsn

/-! ### operations -/
def wpH (P : Program) {α : Type} : Sem α → Hp → (α → Hp → Prop) → Prop
  | .pure a, S, Q => Q a S
  | .load _ a k, S, Q => ∃ v, S.cell? a = some v ∧ wpH P (k v) S Q
  | .store _ a v k, S, Q => vplain v = true ∧ ∃ o u, S a.block = some o ∧ ocell o a = some u ∧ ofrozen o a = false ∧ wpH P k (S.set a.block (oput o a v)) Q
  | .new o k, S, Q => ∀ r, S r = none → wpH P (k r) (S.set r o) Q
  | .shape r k, S, Q => ∃ o, S r = some o ∧ wpH P (k (oshape o)) S Q
  | .freeze a n k, S, Q => ∃ o, S a.block = some o ∧ wpH P k (S.set a.block (ofreeze o a n)) Q
  | .frozen a k, S, Q => ∃ o, S a.block = some o ∧ wpH P (k (ofrozen o a)) S Q
  | .getObj r k, S, Q => ∃ o, S r = some o ∧ oplain o = true ∧ wpH P (k o) S Q
  | .setObj r o k, S, Q => (∃ o', S r = some o' ∧ oplain o' = true) ∧ wpH P k (S.set r o) Q
  | .choose q k, S, Q => if q.forced = true then wpH P (k 0) S Q else ∀ t, wpH P (k (q.cut t)) S Q
  | .sys _ _, _, _ => False
  | .program k, S, Q => wpH P (k P) S Q
  | .mark _ k, S, Q => wpH P k S Q
  | .halt _, _, _ => False

theorem wpH_run {P : Program} {α : Type} (s : Sem α) : ∀ {S : Hp} {Q : α → Hp → Prop} {w : World}, wpH P s S Q → S.In w →
    ∃ a w' S', s.run P w = .ok a w' ∧ Q a S' ∧ Step S w S' w' := by
  induction s with
  | pure a => intro S Q w h hi; exact ⟨a, w, S, rfl, h, Step.refl hi⟩
  | load m a k ih =>
    intro S Q w h hi
    obtain ⟨v, hc, h⟩ := h
    obtain ⟨b, w', S', hr, hq, hs⟩ := ih v h hi
    exact ⟨b, w', S', by simp only [Sem.run, In_cell hi hc]; exact hr, hq, hs⟩
  | store m a v k ih =>
    intro S Q w h hi
    obtain ⟨hv, o, u, hs, hc, hf, h⟩ := h
    have hcell : w.cell? a = some u := In_cell hi (by unfold Hp.cell?; rw [hs]; exact hc)
    have hfr : w.frozen? a = false := (In_frozen hi hs).trans hf
    have hst : Step S w (S.set a.block (oput o a v)) (w.setCell a v) :=
      Step.modify hi hs (by unfold World.setCell; rw [modify_set _ _ _ o (hi _ _ hs)]; cases o <;> rfl) rfl rfl rfl
    obtain ⟨b, w', S', hr, hq, hs'⟩ := ih h hst.inn
    refine ⟨b, w', S', ?_, hq, hst.trans hs'⟩
    cases v <;> first | (simp [vplain] at hv; done) | (simp only [Sem.run, hcell, hfr]; exact hr)
  | new o k ih =>
    intro S Q w h hi
    have hst : Step S w (S.set w.heap.size o) { w with heap := w.heap.push o } := Step.new hi o rfl rfl rfl rfl
    obtain ⟨b, w', S', hr, hq, hs⟩ := ih w.heap.size (h _ (In_fresh hi (Nat.le_refl _))) hst.inn
    exact ⟨b, w', S', by simp only [Sem.run]; exact hr, hq, hst.trans hs⟩
  | shape r k ih =>
    intro S Q w h hi
    obtain ⟨o, hs, h⟩ := h
    obtain ⟨b, w', S', hr, hq, hs'⟩ := ih _ h hi
    exact ⟨b, w', S', by simp only [Sem.run, In_shape hi hs]; exact hr, hq, hs'⟩
  | freeze a n k ih =>
    intro S Q w h hi
    obtain ⟨o, hs, h⟩ := h
    have hst : Step S w (S.set a.block (ofreeze o a n)) (w.freeze a n) := by
      unfold World.freeze
      by_cases hn : n = 0
      · rw [if_pos hn]
        have : S.set a.block (ofreeze o a n) = S := by
          funext m
          unfold Hp.set ofreeze
          rw [if_pos hn]
          split
          · rename_i e; rw [e, hs]
          · rfl
        rw [this]
        exact Step.refl hi
      · rw [if_neg hn]
        exact Step.modify hi hs (by dsimp only; rw [modify_set _ _ _ o (hi _ _ hs)]; unfold ofreeze; rw [if_neg hn]; cases o <;> rfl) rfl rfl rfl
    obtain ⟨b, w', S', hr, hq, hs'⟩ := ih h hst.inn
    exact ⟨b, w', S', by simp only [Sem.run]; exact hr, hq, hst.trans hs'⟩
  | frozen a k ih =>
    intro S Q w h hi
    obtain ⟨o, hs, h⟩ := h
    obtain ⟨b, w', S', hr, hq, hs'⟩ := ih _ h hi
    exact ⟨b, w', S', by simp only [Sem.run, In_frozen hi hs]; exact hr, hq, hs'⟩
  | getObj r k ih =>
    intro S Q w h hi
    obtain ⟨o, hs, hp, h⟩ := h
    obtain ⟨b, w', S', hr, hq, hs'⟩ := ih _ h hi
    refine ⟨b, w', S', ?_, hq, hs'⟩
    simp only [Sem.run, hi _ _ hs]
    cases o <;> first | (simp [oplain] at hp; done) | exact hr
  | setObj r o k ih =>
    intro S Q w h hi
    obtain ⟨⟨o', hs, hp⟩, h⟩ := h
    have hst : Step S w (S.set r o) { w with heap := w.heap.setIfInBounds r o } := Step.modify hi hs rfl rfl rfl rfl
    obtain ⟨b, w', S', hr, hq, hs'⟩ := ih h hst.inn
    refine ⟨b, w', S', ?_, hq, hst.trans hs'⟩
    simp only [Sem.run, hi _ _ hs]
    cases o' <;> first | (simp [oplain] at hp; done) | exact hr
  | choose q k ih =>
    intro S Q w h hi
    simp only [wpH] at h
    by_cases hf : q.forced = true
    · rw [if_pos hf] at h
      obtain ⟨b, w', S', hr, hq, hs⟩ := ih _ h hi
      exact ⟨b, w', S', by simp only [Sem.run, hf, if_true]; exact hr, hq, hs⟩
    · rw [if_neg hf] at h
      have hst := Step.drawn hi (w.drawn + 1)
      obtain ⟨b, w', S', hr, hq, hs⟩ := ih _ (h (w.tape w.drawn q)) hst.inn
      exact ⟨b, w', S', by simp only [Sem.run, hf]; exact hr, hq, hst.trans hs⟩
  | sys c k ih => intro S Q w h; exact h.elim
  | program k ih =>
    intro S Q w h hi
    obtain ⟨b, w', S', hr, hq, hs⟩ := ih _ h hi
    exact ⟨b, w', S', by simp only [Sem.run]; exact hr, hq, hs⟩
  | mark m k ih =>
    intro S Q w h hi
    obtain ⟨b, w', S', hr, hq, hs⟩ := ih h hi
    exact ⟨b, w', S', by simp only [Sem.run]; exact hr, hq, hs⟩
  | halt x => intro S Q w h; exact h.elim

theorem wpH_mono {P : Program} {α : Type} (s : Sem α) : ∀ {S : Hp} {Q Q' : α → Hp → Prop}, (∀ a S, Q a S → Q' a S) → wpH P s S Q → wpH P s S Q' := by
  induction s with
  | pure a => intro S Q Q' hm h; exact hm _ _ h
  | load m a k ih => intro S Q Q' hm ⟨v, hc, h⟩; exact ⟨v, hc, ih v hm h⟩
  | store m a v k ih => intro S Q Q' hm ⟨hv, o, u, hs, hc, hf, h⟩; exact ⟨hv, o, u, hs, hc, hf, ih hm h⟩
  | new o k ih => intro S Q Q' hm h r hr; exact ih r hm (h r hr)
  | shape r k ih => intro S Q Q' hm ⟨o, hs, h⟩; exact ⟨o, hs, ih _ hm h⟩
  | freeze a n k ih => intro S Q Q' hm ⟨o, hs, h⟩; exact ⟨o, hs, ih hm h⟩
  | frozen a k ih => intro S Q Q' hm ⟨o, hs, h⟩; exact ⟨o, hs, ih _ hm h⟩
  | getObj r k ih => intro S Q Q' hm ⟨o, hs, hp, h⟩; exact ⟨o, hs, hp, ih _ hm h⟩
  | setObj r o k ih => intro S Q Q' hm ⟨ho, h⟩; exact ⟨ho, ih hm h⟩
  | choose q k ih =>
    intro S Q Q' hm h
    simp only [wpH] at h ⊢
    split
    · rename_i hf; rw [if_pos hf] at h; exact ih _ hm h
    · rename_i hf; rw [if_neg hf] at h; exact fun t => ih _ hm (h t)
  | sys c k ih => intro S Q Q' hm h; exact h.elim
  | program k ih => intro S Q Q' hm h; exact ih _ hm h
  | mark m k ih => intro S Q Q' hm h; exact ih hm h
  | halt x => intro S Q Q' hm h; exact h.elim

theorem wpH_bind {P : Program} {α β : Type} (s : Sem α) (f : α → Sem β) : ∀ {S : Hp} {Q : β → Hp → Prop}, wpH P s S (fun a S' => wpH P (f a) S' Q) → wpH P (s.bind f) S Q := by
  induction s with
  | pure a => intro S Q h; exact h
  | load m a k ih => intro S Q ⟨v, hc, h⟩; exact ⟨v, hc, ih v h⟩
  | store m a v k ih => intro S Q ⟨hv, o, u, hs, hc, hf, h⟩; exact ⟨hv, o, u, hs, hc, hf, ih h⟩
  | new o k ih => intro S Q h r hr; exact ih r (h r hr)
  | shape r k ih => intro S Q ⟨o, hs, h⟩; exact ⟨o, hs, ih _ h⟩
  | freeze a n k ih => intro S Q ⟨o, hs, h⟩; exact ⟨o, hs, ih h⟩
  | frozen a k ih => intro S Q ⟨o, hs, h⟩; exact ⟨o, hs, ih _ h⟩
  | getObj r k ih => intro S Q ⟨o, hs, hp, h⟩; exact ⟨o, hs, hp, ih _ h⟩
  | setObj r o k ih => intro S Q ⟨ho, h⟩; exact ⟨ho, ih h⟩
  | choose q k ih =>
    intro S Q h
    simp only [Sem.bind, wpH] at h ⊢
    split
    · rename_i hf; rw [if_pos hf] at h; exact ih _ h
    · rename_i hf; rw [if_neg hf] at h; exact fun t => ih _ (h t)
  | sys c k ih => intro S Q h; exact h.elim
  | program k ih => intro S Q h; exact ih _ h
  | mark m k ih => intro S Q h; exact ih h
  | halt x => intro S Q h; exact h.elim

/-! ### calls and code -/
def callWp (P : Program) (f : FuncId) (args : Array Value) (S : Hp) (Q : Value → Hp → Prop) : Prop :=
  ∀ w, S.In w → Calls P f args w (fun e w' => ∃ v S', e = .returned v ∧ Q v S' ∧ Step S w S' w')

theorem callWp_mono {P : Program} {f : FuncId} {args : Array Value} {S : Hp} {Q Q' : Value → Hp → Prop} (h : callWp P f args S Q) (hm : ∀ v S', Q v S' → Q' v S') : callWp P f args S Q' :=
  fun w hi => (h w hi).mono fun _ _ ⟨v, S', e, q, s⟩ => ⟨v, S', e, hm _ _ q, s⟩
/-- A smaller heap is enough. -/
theorem callWp_le {P : Program} {f : FuncId} {args : Array Value} {S0 S : Hp} {Q : Value → Hp → Prop} (h : callWp P f args S0 Q) (hl : S0.le S) : callWp P f args S Q :=
  fun w hi => (h w (fun n o hn => hi n o (hl n o hn))).mono fun _ _ ⟨v, S', e, q, s⟩ => ⟨v, S', e, q, s.of_le hl⟩

/-- The frame that code runs in: a function's own, or a round's. -/
abbrev FC (r : Option Nat) : Fence := { Fence.wide with round := r }
theorem fc_fn {r : Option Nat} {f : FuncId} : (FC r).fn f := trivial
theorem fc_depth {r : Option Nat} {n : Nat} : (FC r).depth.isSome = true → 1 ≤ n := fun h => by cases h
theorem callsIn_fc {r : Option Nat} {n : Nat} {P : Program} {f : FuncId} {args : Array Value} {w : World} {R : Ending → World → Prop} (h : Calls P f args w R) : CallsIn (FC r) n P f args w R :=
  (callsIn_wide (n := n)).2 h
/-- What a range over a function leaves among the deferred calls. -/
def markD (D : Nat) : Deferred := { target := .collected D, args := #[] }
def DefOk (B : Nat) (ds : List Deferred) (S : Hp) (w : World) : Prop :=
  B ≤ w.heap.size ∧ ∃ Ds : List Nat, ds = Ds.map markD ∧ Ds.Nodup ∧ ∀ D, D ∈ Ds → B ≤ D ∧ S D = none ∧ w.heap[D]? = some (.deferred (some []))
theorem DefOk.nil {B : Nat} {S : Hp} {w : World} (h : B ≤ w.heap.size) : DefOk B [] S w := ⟨h, [], rfl, List.nodup_nil, fun _ h => by cases h⟩
theorem DefOk.step {B : Nat} {ds : List Deferred} {S S' : Hp} {w w' : World} (h : DefOk B ds S w) (hs : Step S w S' w') : DefOk B ds S' w' := by
  obtain ⟨hB, Ds, e, hn, hD⟩ := h
  refine ⟨Nat.le_trans hB hs.size, Ds, e, hn, fun D hm => ?_⟩
  obtain ⟨h1, h2, h3⟩ := hD D hm
  obtain ⟨e1, e2⟩ := hs.frame D (Array.getElem?_eq_some_iff.1 h3).1 h2
  exact ⟨h1, e2, e1.trans h3⟩
theorem DefOk.of_le {B : Nat} {ds : List Deferred} {S S0 : Hp} {w : World} (h : DefOk B ds S w) (hl : S0.le S) : DefOk B ds S0 w := by
  obtain ⟨hB, Ds, e, hn, hD⟩ := h
  refine ⟨hB, Ds, e, hn, fun D hm => ?_⟩
  obtain ⟨h1, h2, h3⟩ := hD D hm
  refine ⟨h1, ?_, h3⟩
  cases hs : S0 D with
  | none => rfl
  | some o => rw [hl D o hs] at h2; cases h2
def codeWp (r : Option Nat) (B : Nat) (P : Program) (c : Code) (Q : Exit → Act → Hp → Prop) (a : Act) (S : Hp) : Prop :=
  ∀ w, S.In w → DefOk B a.defers S w → c.wpIn (FC r) 0 P (fun x a' w' => ∃ S', Q x a' S' ∧ Step S w S' w' ∧ DefOk B a'.defers S' w') a w

theorem codeWp_mono {r : Option Nat} {B : Nat} {P : Program} {c : Code} {Q Q' : Exit → Act → Hp → Prop} {a : Act} {S : Hp} (h : codeWp r B P c Q a S) (hm : ∀ x a S, Q x a S → Q' x a S) : codeWp r B P c Q' a S :=
  fun w hi hd => wpIn_mono (h w hi hd) fun _ _ _ ⟨S', q, s⟩ => ⟨S', hm _ _ _ q, s⟩
theorem codeWp_le {r : Option Nat} {B : Nat} {P : Program} {c : Code} {Q : Exit → Act → Hp → Prop} {a : Act} {S0 S : Hp} (h : codeWp r B P c Q a S0) (hl : S0.le S) : codeWp r B P c Q a S :=
  fun w hi hd => wpIn_mono (h w (fun n o hn => hi n o (hl n o hn)) (hd.of_le hl)) fun _ _ _ ⟨S', q, s, d⟩ => ⟨S', q, s.of_le hl, d⟩

section rules
variable {r : Option Nat} {B : Nat} {P : Program} {Q : Exit → Act → Hp → Prop} {a : Act} {S : Hp}

theorem codeWp_skip (h : Q .normal a S) : codeWp r B P .skip Q a S := fun _ hi hd => wpIn_skip ⟨S, h, Step.refl hi, hd⟩
theorem codeWp_label {l : Nat} (h : Q .normal a S) : codeWp r B P (.label l) Q a S := fun _ hi hd => wpIn_label ⟨S, h, Step.refl hi, hd⟩
theorem codeWp_exit {id : Nat} (h : Q (.exit id) a S) : codeWp r B P (.exit id) Q a S := fun _ hi hd => wpIn_exit ⟨S, h, Step.refl hi, hd⟩
theorem codeWp_goto {l : Nat} (h : Q (.goto l) a S) : codeWp r B P (.goto l) Q a S := fun _ hi hd => wpIn_goto ⟨S, h, Step.refl hi, hd⟩
theorem codeWp_ret (h : Q .ret a S) : codeWp r B P .ret Q a S := fun _ hi hd => wpIn_ret ⟨S, h, Step.refl hi, hd⟩

/-- What stands behind the first part. -/
def andThen (next : Act → Hp → Prop) (Q : Exit → Act → Hp → Prop) : Exit → Act → Hp → Prop
  | .normal, a, S => next a S
  | e, a, S => Q e a S
theorem codeWp_seq {x y : Code} (h : codeWp r B P x (andThen (codeWp r B P y Q) Q) a S) : codeWp r B P (.seq x y) Q a S := by
  intro w hi hd
  refine wpIn_seq (wpIn_mono (h w hi hd) ?_)
  rintro e a' w' ⟨S', q, s, d⟩
  cases e <;> simp only [andThen] at q <;> simp only [Exit.then]
  case normal => exact wpIn_mono (q w' s.inn d) fun _ _ _ ⟨S2, q2, s2, d2⟩ => ⟨S2, q2, s.trans s2, d2⟩
  all_goals exact ⟨S', q, s, d⟩
theorem codeWp_cond {c : Operand} {x y : Code} {t : Bool} (hc : a.eval c = .bool t) (h : codeWp r B P (if t = true then x else y) Q a S) : codeWp r B P (.cond c x y) Q a S :=
  fun w hi hd => wpIn_cond hc (h w hi hd)
def inBlock (id : Nat) (Q : Exit → Act → Hp → Prop) : Exit → Act → Hp → Prop
  | .exit id', a, S => if id' = id then Q .normal a S else Q (.exit id') a S
  | e, a, S => Q e a S
theorem codeWp_block {id : Nat} {c : Code} (h : codeWp r B P c (inBlock id Q) a S) : codeWp r B P (.block id c) Q a S := by
  intro w hi hd
  refine wpIn_block (wpIn_mono (h w hi hd) ?_)
  rintro e a' w' ⟨S', q, s, d⟩
  cases e <;> simp only [inBlock] at q <;> simp only [Exit.inBlock]
  case exit id' =>
    split
    · rename_i e; rw [if_pos e] at q; exact ⟨S', q, s, d⟩
    · rename_i e; rw [if_neg e] at q; exact ⟨S', q, s, d⟩
  all_goals exact ⟨S', q, s, d⟩
theorem exists_least {p : Nat → Prop} (h : ∃ m, p m) : ∃ m, p m ∧ ∀ k, p k → m ≤ k := by
  obtain ⟨m, hm⟩ := h
  induction m using Nat.strongRecOn with
  | _ m ih =>
    by_cases hk : ∃ k, k < m ∧ p k
    · obtain ⟨k, hlt, hp⟩ := hk
      exact ih k hlt hp
    · exact ⟨m, hm, fun k hp => Nat.le_of_not_lt fun hlt => hk ⟨k, hlt, hp⟩⟩
open Classical in
noncomputable def least (p : Nat → Prop) : Nat := if h : ∃ m, p m then Classical.choose (exists_least h) else 0
theorem least_spec {p : Nat → Prop} (h : ∃ m, p m) : p (least p) := by
  unfold least
  rw [dif_pos h]
  exact (Classical.choose_spec (exists_least h)).1
theorem least_min {p : Nat → Prop} {k : Nat} (hk : p k) : least p ≤ k := by
  unfold least
  rw [dif_pos ⟨k, hk⟩]
  exact (Classical.choose_spec (exists_least ⟨k, hk⟩)).2 k hk
theorem codeWp_loop {c : Code} (R : Nat → Act → Hp → Prop) (n : Nat) (h0 : R n a S)
    (round : ∀ n a S, R n a S → codeWp r B P c (andThen (fun a' S' => ∃ m, m < n ∧ R m a' S') Q) a S) : codeWp r B P (.loop c) Q a S := by
  intro w hi hd
  let J : Nat → Act → World → Prop := fun m a' w' => ∃ S', R m a' S' ∧ Step S w S' w' ∧ DefOk B a'.defers S' w'
  refine wpIn_loop (fun a' w' => ∃ m, J m a' w') (fun a' w' => least fun m => J m a' w') ⟨n, S, h0, Step.refl hi, hd⟩ ?_
  intro a' w' hJ
  have hsp := least_spec hJ
  generalize (least fun m => J m a' w') = m at hsp ⊢
  obtain ⟨S', hR, hs, hd'⟩ := hsp
  refine wpIn_mono (round m a' S' hR w' hs.inn hd') ?_
  rintro e a2 w2 ⟨S2, q, s2, d2⟩
  cases e <;> simp only [andThen] at q <;> simp only [Exit.then]
  case normal =>
    obtain ⟨m2, hlt, hR2⟩ := q
    have hJ2 : J m2 a2 w2 := ⟨S2, hR2, hs.trans s2, d2⟩
    exact ⟨⟨m2, hJ2⟩, Nat.lt_of_le_of_lt (least_min (p := fun m => J m a2 w2) hJ2) hlt⟩
  all_goals exact ⟨S2, q, hs.trans s2, d2⟩
theorem stepR_scope {b : Frame} {k : List Item} {cs : List Frame} {w : World} {c : Code} : step P (lone (b.atR a (.code (.scope c) :: k)) cs w) = .next (lone (b.atR a (.code c :: .inScope c :: k)) cs w) :=
  step_lone_go (by simp [stepG, stepG.exec, Frame.atR])
theorem stepR_inScope {b : Frame} {k : List Item} {cs : List Frame} {w : World} {c : Code} : step P (lone (b.atR a (.inScope c :: k)) cs w) = .next (lone (b.atR a k) cs w) :=
  step_lone_go (by simp [stepG, stepG.exec, Frame.atR])
def noGoto (Q : Exit → Act → World → Prop) : Exit → Act → World → Prop
  | .goto _, _, _ => False
  | e, a, w => Q e a w
theorem wpIn_scope_straight {F : Fence} {n : Nat} {c : Code} {Q : Exit → Act → World → Prop} {w : World} (h : c.wpIn F n P (noGoto Q) a w) : (Code.scope c).wpIn F n P Q a w := by
  intro b k cs hro hb hr
  have h0 : (lone (b.atR a (.code (.scope c) :: k)) cs w).fenced P F := fenced_calm hb hr rfl
  obtain ⟨e, a₁, w₁, hq, harr⟩ := h b (.inScope c :: k) cs hro hb hr
  cases e with
  | normal => exact ⟨.normal, a₁, w₁, hq, .head h0 stepR_scope (StepsIn.trans harr (.one (fenced_calm hb hr rfl) stepR_inScope))⟩
  | exit id =>
    have hx : exitTo id (.inScope c :: k) = exitTo id k := by simp [exitTo]
    exact ⟨.exit id, a₁, w₁, hq, fun k' hk => .head h0 stepR_scope (harr.1 k' (by rw [hx]; exact hk)),
      fun hr' hk => let ⟨k₁, h1, h2⟩ := harr.2 hr' (by rw [hx]; exact hk); ⟨k₁, h1, .head h0 stepR_scope h2⟩⟩
  | goto l => exact hq.elim
  | ret => exact ⟨_, a₁, w₁, hq, .of_steps (.one h0 stepR_scope) harr⟩
  | panic ch => exact ⟨_, a₁, w₁, hq, .of_steps (.one h0 stepR_scope) harr⟩
  | outgrown => exact ⟨_, a₁, w₁, hq, .of_steps (.one h0 stepR_scope) harr⟩
end rules

/-- A round of a range over a function. -/
def roundWp (P : Program) (l : Nat) (f : FuncId) (tmps : Array Value) (assign body : Code) (S : Hp) (K : Value → Hp → Prop) : Prop :=
  ∀ w, S.In w → RoundIn Fence.wide 0 P l f tmps assign body w (fun e w' => ∃ v S', e = .returned v ∧ K v S' ∧ Step S w S' w')
theorem roundWp_mono {P : Program} {l : Nat} {f : FuncId} {tmps : Array Value} {assign body : Code} {S : Hp} {K K' : Value → Hp → Prop} (h : roundWp P l f tmps assign body S K) (hm : ∀ v S', K v S' → K' v S') : roundWp P l f tmps assign body S K' :=
  fun w hi => (h w hi).mono fun _ _ ⟨v, S', e, q, s⟩ => ⟨v, S', e, hm _ _ q, s⟩
def opPost (P : Program) (K : Value → Hp → Prop) (nx : Next) (S' : Hp) : Prop :=
  match nx with
  | .value v => K v S'
  | .skip => K undef S'
  | .enter f args => callWp P f args S' K
  | .round l f tmps assign body => roundWp P l f tmps assign body S' K
  | _ => False
def opWp (P : Program) (o : Oper) (a : Act) (S : Hp) (K : Value → Hp → Prop) : Prop := wpH P (execOp a.eval o) S (opPost P K)
def opsWp (P : Program) (ops : Array Oper) (Q : Act → Hp → Prop) : List Nat → Act → Hp → Prop
  | [], a, S => Q a S
  | i :: r, a, S =>
    match ops[i]? with
    | none => opsWp P ops Q r a S
    | some o => if Region.wanted o (yielded ops a.tmps) = true then opWp P o a S (fun v S' => opsWp P ops Q r (a.put o.dst v) S') else opsWp P ops Q r (a.put o.dst undef) S

theorem opPost_mono {P : Program} {K K' : Value → Hp → Prop} (hm : ∀ v S, K v S → K' v S) {nx : Next} {S : Hp} (h : opPost P K nx S) : opPost P K' nx S := by
  cases nx <;> simp only [opPost] at h ⊢ <;> first | exact hm _ _ h | exact callWp_mono h hm | exact roundWp_mono h hm
theorem opWp_mono {P : Program} {o : Oper} {a : Act} {S : Hp} {K K' : Value → Hp → Prop} (h : opWp P o a S K) (hm : ∀ v S, K v S → K' v S) : opWp P o a S K' :=
  wpH_mono _ (fun _ _ hp => opPost_mono hm hp) h
theorem opWp_noDefer {P : Program} {o : Oper} {a : Act} {S : Hp} {K : Value → Hp → Prop} {w : World} (h : opWp P o a S K) (hi : S.In w) : ∀ c, o.op ≠ .defer c := by
  intro c ho
  unfold opWp execOp at h
  rw [ho] at h
  dsimp only at h
  obtain ⟨nx, w', S', hr, hp, hs⟩ := wpH_run _ h hi
  have hd : ∃ d, nx = .defer d := by
    simp only [Sem.run_bind] at hr
    cases hq : (resolve a.eval c o.type).run P w with
    | ok d w2 => rw [hq] at hr; simp [Result.andThen] at hr; exact ⟨_, hr.1.symm⟩
    | halt x w2 => rw [hq] at hr; simp [Result.andThen] at hr
  obtain ⟨d, rfl⟩ := hd
  exact hp
theorem opWp_sound {r : Option Nat} {P : Program} {o : Oper} {a : Act} {S : Hp} {K : Value → Hp → Prop} {w : World} {next : Act → World → Prop} {Q : Exit → Act → World → Prop} (h : opWp P o a S K) (hi : S.In w)
    (hn : ∀ v S' w', K v S' → Step S w S' w' → next (a.put o.dst v) w') : o.wpIn (FC r) 0 P a w next Q := by
  have hnd := opWp_noDefer h hi
  obtain ⟨nx, w', S', hr, hp, hs⟩ := wpH_run _ h hi
  unfold Oper.wpIn
  refine ⟨fun f _ => fc_fn, ?_⟩
  rw [Oper.semAt_eq _ _ _ hnd, hr]
  cases nx <;> simp only [opPost] at hp <;> simp only [Oper.uponIn]
  case value v => exact hn _ _ _ hp hs
  case skip => exact hn _ _ _ hp hs
  case enter f args =>
    refine ⟨fc_depth, callsIn_fc ((hp w' hs.inn).mono ?_)⟩
    rintro e w2 ⟨v, S2, rfl, q, s2⟩
    exact hn _ _ _ q (hs.trans s2)
  case round l f tmps assign body =>
    refine ⟨fc_depth, RoundIn.mono (F := FC r) (hp w' hs.inn) ?_⟩
    rintro e w2 ⟨v, S2, rfl, q, s2⟩
    exact hn _ _ _ q (hs.trans s2)
theorem opsWp_sound {r : Option Nat} {P : Program} {ops : Array Oper} {ds : List Deferred} {Q : Act → Hp → Prop} {QW : Exit → Act → World → Prop} {S0 : Hp} {w0 : World} (hq : ∀ a S w, a.defers = ds → Q a S → Step S0 w0 S w → QW .normal a w) (l : List Nat) :
    ∀ (a : Act) (S : Hp) (w : World), a.defers = ds → opsWp P ops Q l a S → Step S0 w0 S w → wpOpsIn (FC r) 0 P ops QW l a w := by
  induction l with
  | nil => intro a S w hd h hs; exact hq a S w hd h hs
  | cons i r ih =>
    intro a S w hd h hs
    simp only [opsWp] at h
    simp only [wpOpsIn]
    have hput : ∀ dst v, (a.put dst v).defers = ds := fun dst v => by cases dst <;> exact hd
    cases ho : ops[i]? with
    | none => simp only [ho] at h ⊢; exact ih a S w hd h hs
    | some o =>
      simp only [ho] at h ⊢
      by_cases hw : Region.wanted o (yielded ops a.tmps) = true
      · rw [if_pos hw] at h ⊢
        exact opWp_sound h hs.inn fun v S' w' hk hs' => ih _ _ _ (hput _ _) hk (hs.trans hs')
      · rw [if_neg hw] at h ⊢
        exact ⟨fun f _ => fc_fn, ih _ _ _ (hput _ _) h hs⟩
theorem codeWp_region {r : Option Nat} {B : Nat} {P : Program} {id : Nat} {ops : Array Oper} {Q : Exit → Act → Hp → Prop} {a : Act} {S : Hp} (h : opsWp P ops (Q .normal) (List.range ops.size) a S) : codeWp r B P (.region id ops false) Q a S := by
  intro w hi hd
  exact wpIn_region (opsWp_sound (ds := a.defers) (fun a' S' w' he hq hs => ⟨S', hq, hs, by rw [he]; exact hd.step hs⟩) _ a S w rfl h (Step.refl hi))

/-! ### the results of a body -/
def resultsIn (S : Hp) (tmps : Array Value) (rs : List ResultVar) (P : Program) (vs : List Value) : Prop :=
  match rs, vs with
  | [], [] => True
  | .tmp t :: rs, v :: vs => v = tmps.getD t undef ∧ resultsIn S tmps rs P vs
  | .cell t ty :: rs, v :: vs => wpH P (do loadVar ty (← asAddr (tmps.getD t undef))) S (fun u S' => u = v ∧ S' = S) ∧ resultsIn S tmps rs P vs
  | _, _ => False

end Go.PH
