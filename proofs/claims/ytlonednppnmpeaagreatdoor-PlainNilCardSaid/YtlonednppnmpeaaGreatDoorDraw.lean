/- PH: a region whose order is drawn. In one order (the list handed in) the operations are carried out; what is only read is held against each heavy operation that may come ahead of it; the theorem says that then every order that the region's edges allow comes to the same. -/
import Derived.Test.YtlonednppnmpeaaGreatDoorCore
set_option linter.all false
namespace Go.PH
open Go

/-! ### what only reads -/
def readv (P : Program) (S : Hp) {α : Type} : Sem α → Option α
  | .pure a => some a
  | .load _ a k => match S.cell? a with | some v => readv P S (k v) | none => none
  | .shape r k => match S r with | some o => readv P S (k (oshape o)) | none => none
  | .frozen a k => match S a.block with | some o => readv P S (k (ofrozen o a)) | none => none
  | .getObj r k => match S r with | some o => if oplain o = true then readv P S (k o) else none | none => none
  | .program k => readv P S (k P)
  | .mark _ k => readv P S k
  | _ => none

theorem cell?_le {S T : Hp} (hl : S.le T) {a : Addr} {v : Value} (h : S.cell? a = some v) : T.cell? a = some v := by
  unfold Hp.cell? at *
  cases hs : S a.block with
  | none => rw [hs] at h; cases h
  | some o => rw [hl _ _ hs]; rw [hs] at h; exact h

theorem readv_wp {P : Program} {α : Type} (s : Sem α) : ∀ {S : Hp} {Q : α → Hp → Prop} {a : α}, readv P S s = some a → Q a S → wpH P s S Q := by
  induction s with
  | pure a => intro S Q b h hq; simp only [readv, Option.some.injEq] at h; subst h; exact hq
  | load m a k ih =>
    intro S Q b h hq
    simp only [readv] at h
    cases hc : S.cell? a with
    | none => rw [hc] at h; cases h
    | some v => rw [hc] at h; exact ⟨v, hc, ih v h hq⟩
  | shape r k ih =>
    intro S Q b h hq
    simp only [readv] at h
    cases hc : S r with
    | none => rw [hc] at h; cases h
    | some v => rw [hc] at h; exact ⟨v, hc, ih _ h hq⟩
  | frozen a k ih =>
    intro S Q b h hq
    simp only [readv] at h
    cases hc : S a.block with
    | none => rw [hc] at h; cases h
    | some v => rw [hc] at h; exact ⟨v, hc, ih _ h hq⟩
  | getObj r k ih =>
    intro S Q b h hq
    simp only [readv] at h
    cases hc : S r with
    | none => rw [hc] at h; cases h
    | some v =>
      rw [hc] at h
      dsimp only at h
      split at h
      · rename_i hp; exact ⟨v, hc, hp, ih _ h hq⟩
      · cases h
  | program k ih => intro S Q b h hq; exact ih _ h hq
  | mark m k ih => intro S Q b h hq; exact ih h hq
  | store m a v k ih => intro S Q b h; cases h
  | new o k ih => intro S Q b h; cases h
  | freeze a n k ih => intro S Q b h; cases h
  | setObj r o k ih => intro S Q b h; cases h
  | choose q k ih => intro S Q b h; cases h
  | sys c k ih => intro S Q b h; cases h
  | halt x => intro S Q b h; cases h

theorem readv_le {P : Program} {α : Type} (s : Sem α) : ∀ {S T : Hp} {a : α}, S.le T → readv P S s = some a → readv P T s = some a := by
  induction s with
  | pure a => intro S T b hl h; exact h
  | load m a k ih =>
    intro S T b hl h
    simp only [readv] at h ⊢
    cases hc : S.cell? a with
    | none => rw [hc] at h; cases h
    | some v => rw [hc] at h; rw [cell?_le hl hc]; exact ih v hl h
  | shape r k ih =>
    intro S T b hl h
    simp only [readv] at h ⊢
    cases hc : S r with
    | none => rw [hc] at h; cases h
    | some v => rw [hc] at h; rw [hl _ _ hc]; exact ih _ hl h
  | frozen a k ih =>
    intro S T b hl h
    simp only [readv] at h ⊢
    cases hc : S a.block with
    | none => rw [hc] at h; cases h
    | some v => rw [hc] at h; rw [hl _ _ hc]; exact ih _ hl h
  | getObj r k ih =>
    intro S T b hl h
    simp only [readv] at h ⊢
    cases hc : S r with
    | none => rw [hc] at h; cases h
    | some v =>
      rw [hc] at h; rw [hl _ _ hc]
      dsimp only at h ⊢
      split at h
      · rename_i hp; rw [if_pos hp]; exact ih _ hl h
      · cases h
  | program k ih => intro S T b hl h; exact ih _ hl h
  | mark m k ih => intro S T b hl h; exact ih hl h
  | store m a v k ih => intro S T b hl h; cases h
  | new o k ih => intro S T b hl h; cases h
  | freeze a n k ih => intro S T b hl h; cases h
  | setObj r o k ih => intro S T b hl h; cases h
  | choose q k ih => intro S T b hl h; cases h
  | sys c k ih => intro S T b hl h; cases h
  | halt x => intro S T b hl h; cases h

def Hp.none : Hp := fun _ => Option.none
theorem Hp.none_le (S : Hp) : Hp.none.le S := fun _ _ h => by cases h

/-! ### heaps that are a world's -/
def Real (S : Hp) : Prop := ∃ B, ∀ n, B ≤ n → S n = Option.none
theorem Real.of_In {S : Hp} {w : World} (h : S.In w) : Real S := ⟨w.heap.size, fun _ hn => In_fresh h hn⟩
theorem Real.set {S : Hp} (h : Real S) (r : Nat) (o : Obj) : Real (S.set r o) := by
  obtain ⟨B, hB⟩ := h
  refine ⟨max B (r + 1), fun n hn => ?_⟩
  unfold Hp.set
  rw [if_neg (by omega)]
  exact hB n (by omega)
theorem Real.fresh {S : Hp} (h : Real S) : ∃ n, S n = Option.none := ⟨_, h.choose_spec _ (Nat.le_refl _)⟩
theorem Real.world {S : Hp} (h : Real S) : ∃ w : World, S.In w := by
  obtain ⟨B, hB⟩ := h
  refine ⟨{ (default : World) with heap := Array.ofFn (n := B) fun i => (S i).getD default }, fun n o hn => ?_⟩
  have hlt : n < B := Nat.lt_of_not_le fun hle => by rw [hB n hle] at hn; cases hn
  simp [hlt, hn]

theorem wpH_real {P : Program} {α : Type} (s : Sem α) : ∀ {S : Hp} {Q Q' : α → Hp → Prop}, Real S → (∀ a S, Real S → Q a S → Q' a S) → wpH P s S Q → wpH P s S Q' := by
  induction s with
  | pure a => intro S Q Q' hR hm h; exact hm _ _ hR h
  | load m a k ih => intro S Q Q' hR hm ⟨v, hc, h⟩; exact ⟨v, hc, ih v hR hm h⟩
  | store m a v k ih => intro S Q Q' hR hm ⟨hv, o, u, hs, hc, hf, h⟩; exact ⟨hv, o, u, hs, hc, hf, ih (hR.set _ _) hm h⟩
  | new o k ih => intro S Q Q' hR hm h r hr; exact ih r (hR.set _ _) hm (h r hr)
  | shape r k ih => intro S Q Q' hR hm ⟨o, hs, h⟩; exact ⟨o, hs, ih _ hR hm h⟩
  | freeze a n k ih => intro S Q Q' hR hm ⟨o, hs, h⟩; exact ⟨o, hs, ih (hR.set _ _) hm h⟩
  | frozen a k ih => intro S Q Q' hR hm ⟨o, hs, h⟩; exact ⟨o, hs, ih _ hR hm h⟩
  | getObj r k ih => intro S Q Q' hR hm ⟨o, hs, hp, h⟩; exact ⟨o, hs, hp, ih _ hR hm h⟩
  | setObj r o k ih => intro S Q Q' hR hm ⟨ho, h⟩; exact ⟨ho, ih (hR.set _ _) hm h⟩
  | choose q k ih =>
    intro S Q Q' hR hm h
    simp only [wpH] at h ⊢
    split
    · rename_i hf; rw [if_pos hf] at h; exact ih _ hR hm h
    · rename_i hf; rw [if_neg hf] at h; exact fun t => ih _ hR hm (h t)
  | sys c k ih => intro S Q Q' hR hm h; exact h.elim
  | program k ih => intro S Q Q' hR hm h; exact ih _ hR hm h
  | mark m k ih => intro S Q Q' hR hm h; exact ih hR hm h
  | halt x => intro S Q Q' hR hm h; exact h.elim
theorem callWp_real {P : Program} {f : FuncId} {args : Array Value} {S : Hp} {Q Q' : Value → Hp → Prop} (h : callWp P f args S Q) (hm : ∀ v S', Real S' → Q v S' → Q' v S') : callWp P f args S Q' :=
  fun w hi => (h w hi).mono fun _ _ ⟨v, S', e, q, s⟩ => ⟨v, S', e, hm _ _ (Real.of_In s.inn) q, s⟩
theorem roundWp_real {P : Program} {l : Nat} {f : FuncId} {tmps : Array Value} {assign body : Code} {S : Hp} {Q Q' : Value → Hp → Prop} (h : roundWp P l f tmps assign body S Q) (hm : ∀ v S', Real S' → Q v S' → Q' v S') : roundWp P l f tmps assign body S Q' :=
  fun w hi => (h w hi).mono fun _ _ ⟨v, S', e, q, s⟩ => ⟨v, S', e, hm _ _ (Real.of_In s.inn) q, s⟩
theorem opPost_real {P : Program} {K K' : Value → Hp → Prop} (hm : ∀ v S, Real S → K v S → K' v S) {nx : Next} {S : Hp} (hR : Real S) (h : opPost P K nx S) : opPost P K' nx S := by
  cases nx <;> simp only [opPost] at h ⊢ <;> first | exact hm _ _ hR h | exact callWp_real h hm | exact roundWp_real h hm
/-- Something comes of it. -/
theorem wpH_some {P : Program} {s : Sem Next} {S : Hp} {K : Value → Hp → Prop} (hR : Real S) (h : wpH P s S (opPost P K)) : ∃ v S', Real S' ∧ K v S' := by
  obtain ⟨w, hi⟩ := hR.world
  obtain ⟨nx, w', S', hr, hp, hs⟩ := wpH_run _ h hi
  cases nx <;> simp only [opPost] at hp
  case value v => exact ⟨v, S', Real.of_In hs.inn, hp⟩
  case skip => exact ⟨undef, S', Real.of_In hs.inn, hp⟩
  case enter f args =>
    obtain ⟨e, w2, fr, ⟨v, S2, _, q, s2⟩, _⟩ := hp w' hs.inn []
    exact ⟨v, S2, Real.of_In s2.inn, q⟩
  case round l f tmps assign body =>
    obtain ⟨e, w2, ⟨v, S2, _, q, s2⟩, _⟩ := (hp w' hs.inn).2 default [] (room_wide _)
    exact ⟨v, S2, Real.of_In s2.inn, q⟩

/-! ### a block beside -/
theorem set_set_ne {S : Hp} {n m : Nat} (h : n ≠ m) (a b : Obj) : (S.set n a).set m b = (S.set m b).set n a := by
  funext k
  unfold Hp.set
  by_cases h1 : k = m
  · rw [if_pos h1, if_neg (fun e => h (e.symm.trans h1)), if_pos h1]
  · by_cases h2 : k = n
    · rw [if_neg h1, if_pos h2, if_pos h2]
    · rw [if_neg h1, if_neg h2, if_neg h2, if_neg h1]
theorem set_ne {S : Hp} {n m : Nat} (h : n ≠ m) (o : Obj) : (S.set m o) n = S n := if_neg h
theorem set_same {S : Hp} {m : Nat} (o : Obj) : (S.set m o) m = some o := if_pos rfl

theorem step_beside {S S' : Hp} {w w' : World} {n : Nat} (hn : S n = Option.none) {o : Obj} (hb : w.heap[n]? = some o) (s : Step S w S' w') : S' n = Option.none ∧ Step (S.set n o) w (S'.set n o) w' := by
  have hlt : n < w.heap.size := (Array.getElem?_eq_some_iff.1 hb).1
  obtain ⟨e1, n1⟩ := s.frame n hlt hn
  refine ⟨n1, ?_, s.size, ?_, s.os, s.tape, s.output⟩
  · intro m p hm
    unfold Hp.set at hm
    split at hm
    · rename_i em; subst em; cases hm; exact e1.trans hb
    · exact s.inn m p hm
  · intro m hm hs
    have hne : m ≠ n := fun e => by subst e; rw [set_same] at hs; cases hs
    rw [set_ne hne] at hs
    obtain ⟨e2, n2⟩ := s.frame m hm hs
    exact ⟨e2, by rw [set_ne hne]; exact n2⟩
theorem in_beside {S : Hp} {w : World} {n : Nat} {o : Obj} (hn : S n = Option.none) (hi : (S.set n o).In w) : S.In w ∧ w.heap[n]? = some o :=
  ⟨fun m q hm => hi m q (by rw [set_ne (fun e => by subst e; rw [hn] at hm; cases hm)]; exact hm), hi n o (set_same o)⟩
theorem callWp_beside {P : Program} {f : FuncId} {args : Array Value} {S : Hp} {Q : Value → Hp → Prop} {n : Nat} (hn : S n = Option.none) (o : Obj) (h : callWp P f args S Q) :
    callWp P f args (S.set n o) (fun v T => ∃ S', S' n = Option.none ∧ T = S'.set n o ∧ Q v S') := by
  intro w hi
  obtain ⟨hi0, hb⟩ := in_beside hn hi
  refine (h w hi0).mono ?_
  rintro e w' ⟨v, S', he, q, s⟩
  obtain ⟨n1, s1⟩ := step_beside hn hb s
  exact ⟨v, S'.set n o, he, ⟨S', n1, rfl, q⟩, s1⟩
theorem roundWp_beside {P : Program} {l : Nat} {f : FuncId} {tmps : Array Value} {assign body : Code} {S : Hp} {Q : Value → Hp → Prop} {n : Nat} (hn : S n = Option.none) (o : Obj) (h : roundWp P l f tmps assign body S Q) :
    roundWp P l f tmps assign body (S.set n o) (fun v T => ∃ S', S' n = Option.none ∧ T = S'.set n o ∧ Q v S') := by
  intro w hi
  obtain ⟨hi0, hb⟩ := in_beside hn hi
  refine (h w hi0).mono ?_
  rintro e w' ⟨v, S', he, q, s⟩
  obtain ⟨n1, s1⟩ := step_beside hn hb s
  exact ⟨v, S'.set n o, he, ⟨S', n1, rfl, q⟩, s1⟩
theorem wpH_beside {P : Program} {α : Type} (s : Sem α) {n : Nat} (o : Obj) : ∀ {S : Hp} {Q : α → Hp → Prop}, S n = Option.none → wpH P s S Q → wpH P s (S.set n o) (fun a T => ∃ S', S' n = Option.none ∧ T = S'.set n o ∧ Q a S') := by
  have ne : ∀ {S : Hp} {m : Nat} {q : Obj}, S n = Option.none → S m = some q → m ≠ n := fun hn hm e => by subst e; rw [hn] at hm; cases hm
  have up : ∀ {S : Hp} {m : Nat} {q : Obj}, S n = Option.none → S m = some q → (S.set n o) m = some q := fun hn hm => by rw [set_ne (ne hn hm)]; exact hm
  have kp : ∀ {S : Hp} {m : Nat} {q q' : Obj}, S n = Option.none → S m = some q → (S.set m q') n = Option.none := fun hn hm => by rw [set_ne (fun e => ne hn hm e.symm)]; exact hn
  have cm : ∀ {S : Hp} {m : Nat} {q q' : Obj}, S n = Option.none → S m = some q → (S.set n o).set m q' = (S.set m q').set n o := fun hn hm => set_set_ne (fun e => ne hn hm e.symm) _ _
  induction s with
  | pure a => intro S Q hn h; exact ⟨S, hn, rfl, h⟩
  | load m a k ih => intro S Q hn ⟨v, hc, h⟩; exact ⟨v, cell?_le (Hp.le_set hn) hc, ih v hn h⟩
  | store m a v k ih =>
    intro S Q hn ⟨hv, p, u, hs, hc, hf, h⟩
    refine ⟨hv, p, u, up hn hs, hc, hf, ?_⟩
    rw [cm hn hs]
    exact ih (kp hn hs) h
  | new q k ih =>
    intro S Q hn h r hr
    have hne : r ≠ n := fun e => by subst e; rw [set_same] at hr; cases hr
    rw [set_ne hne] at hr
    rw [set_set_ne (fun e => hne e.symm)]
    exact ih r (by rw [set_ne (fun e => hne e.symm)]; exact hn) (h r hr)
  | shape r k ih => intro S Q hn ⟨p, hs, h⟩; exact ⟨p, up hn hs, ih _ hn h⟩
  | freeze a m k ih =>
    intro S Q hn ⟨p, hs, h⟩
    refine ⟨p, up hn hs, ?_⟩
    rw [cm hn hs]
    exact ih (kp hn hs) h
  | frozen a k ih => intro S Q hn ⟨p, hs, h⟩; exact ⟨p, up hn hs, ih _ hn h⟩
  | getObj r k ih => intro S Q hn ⟨p, hs, hp, h⟩; exact ⟨p, up hn hs, hp, ih _ hn h⟩
  | setObj r q k ih =>
    intro S Q hn ⟨⟨p, hs, hp⟩, h⟩
    refine ⟨⟨p, up hn hs, hp⟩, ?_⟩
    rw [cm hn hs]
    exact ih (kp hn hs) h
  | choose q k ih =>
    intro S Q hn h
    simp only [wpH] at h ⊢
    split
    · rename_i hf; rw [if_pos hf] at h; exact ih _ hn h
    · rename_i hf; rw [if_neg hf] at h; exact fun t => ih _ hn (h t)
  | sys c k ih => intro S Q hn h; exact h.elim
  | program k ih => intro S Q hn h; exact ih _ hn h
  | mark m k ih => intro S Q hn h; exact ih hn h
  | halt x => intro S Q hn h; exact h.elim

/-! ### the four kinds of operations -/
/-- It lays one block (which may hang on a draw), and hands back a value that names it. -/
def AllocIs (P : Program) (s : Sem Next) (ob : Nat → Obj) (f : Nat → Nat → Value) : Prop :=
  ∀ (S : Hp) (Q : Next → Hp → Prop), wpH P s S Q ↔ ∀ t n, S n = Option.none → Q (.value (f t n)) (S.set n (ob t))
abbrev Held := List (Nat × Sem Next × Value)
def Holds (P : Program) (un : Nat → Nat → Bool) (i : Nat) (S : Hp) (G : Held) : Prop := ∀ g, g ∈ G → un g.1 i = true → readv P S g.2.1 = some (.value g.2.2)
def T (P : Program) (un : Nat → Nat → Bool) (c i : Nat) (s : Sem Next) (S : Hp) (G : Held) (K : Value → Hp → Held → Prop) : Prop :=
  match c with
  | 0 => ∃ v, readv P Hp.none s = some (.value v) ∧ K v S G
  | 1 => ∃ v, readv P S s = some (.value v) ∧ K v S ((i, s, v) :: G)
  | 2 => (∃ ob f, AllocIs P s ob f) ∧ wpH P s S (fun nx S' => ∃ v, nx = .value v ∧ K v S' G)
  | _ => wpH P s S (opPost P fun v S' => Holds P un i S' G ∧ K v S' G)
section
variable {P : Program} {un : Nat → Nat → Bool}
theorem T_mono {c i : Nat} {s : Sem Next} {S : Hp} {G : Held} {K K' : Value → Hp → Held → Prop} (hR : Real S) (hm : ∀ v S G, Real S → K v S G → K' v S G) (h : T P un c i s S G K) : T P un c i s S G K' := by
  unfold T at *
  split
  · obtain ⟨v, hv, h⟩ := h; exact ⟨v, hv, hm _ _ _ hR h⟩
  · obtain ⟨v, hv, h⟩ := h; exact ⟨v, hv, hm _ _ _ hR h⟩
  · obtain ⟨ha, h⟩ := h; exact ⟨ha, wpH_real _ hR (fun nx S' hR' ⟨v, e, hk⟩ => ⟨v, e, hm _ _ _ hR' hk⟩) h⟩
  · rename_i h0 h1 h2
    split at h
    · exact absurd rfl h0
    · exact absurd rfl h1
    · exact absurd rfl h2
    · exact wpH_real _ hR (fun nx S' hR' hp => opPost_real (fun v S2 hR2 hk => ⟨hk.1, hm _ _ _ hR2 hk.2⟩) hR' hp) h
theorem T_some {c i : Nat} {s : Sem Next} {S : Hp} {G : Held} {K : Value → Hp → Held → Prop} (hR : Real S) (h : T P un c i s S G K) : ∃ v S' G', Real S' ∧ K v S' G' := by
  unfold T at h
  split at h
  · obtain ⟨v, hv, h⟩ := h; exact ⟨v, _, _, hR, h⟩
  · obtain ⟨v, hv, h⟩ := h; exact ⟨v, _, _, hR, h⟩
  · obtain ⟨⟨ob, f, ha⟩, h⟩ := h
    obtain ⟨n, hn⟩ := hR.fresh
    obtain ⟨v, _, hk⟩ := (ha _ _).1 h 0 n hn
    exact ⟨v, _, _, hR.set _ _, hk⟩
  · obtain ⟨v, S', hR', hk⟩ := wpH_some hR h
    exact ⟨v, S', _, hR', hk.2⟩
theorem Holds_le {i : Nat} {S S' : Hp} {G : Held} (hl : S.le S') (h : Holds P un i S G) : Holds P un i S' G := fun g hg hu => readv_le _ hl (h g hg hu)
theorem Holds_sub {i : Nat} {S : Hp} {G G' : Held} (hs : ∀ g, g ∈ G' → g ∈ G) (h : Holds P un i S G) : Holds P un i S G' := fun g hg hu => h g (hs g hg) hu

/-- Which pairs may change places, the first one handed first. -/
def pairOk (c d : Nat) : Bool := c == 0 || c == 1 || d == 0 || (c == 2 && d == 2) || (c == 3 && d == 2)

theorem T_swap {c d p i : Nat} {s s2 : Sem Next} {S : Hp} {G : Held} {K : Value → Value → Hp → Held → Prop} (hc : c ≤ 3) (hd : d ≤ 3) (hok : pairOk c d = true) (hu : un p i = true) (hR : Real S)
    (hK : ∀ v u S G G', (∀ g, g ∈ G' → g ∈ G) → K v u S G → K v u S G')
    (h : T P un c p s S G (fun v S1 G1 => T P un d i s2 S1 G1 (fun u S2 G2 => K v u S2 G2))) :
    T P un d i s2 S G (fun u S1 G1 => T P un c p s S1 G1 (fun v S2 G2 => K v u S2 G2)) := by
  by_cases c0 : c = 0
  · subst c0
    obtain ⟨v, hv, h⟩ := h
    exact T_mono hR (fun u S' G' _ hk => ⟨v, hv, hk⟩) h
  by_cases d0 : d = 0
  · subst d0
    obtain ⟨_, _, _, _, u, hu', _⟩ := T_some hR h
    refine ⟨u, hu', T_mono hR ?_ h⟩
    rintro v S' G' _ ⟨u', hu2, hk⟩
    rw [hu'] at hu2
    cases hu2
    exact hk
  by_cases c1 : c = 1
  · subst c1
    obtain ⟨v, hv, h⟩ := h
    by_cases d1 : d = 1
    · subst d1
      obtain ⟨u, hu', hk⟩ := h
      exact ⟨u, hu', v, hv, hK _ _ _ _ _ (fun g hg => by simp at hg ⊢; rcases hg with h | h | h <;> simp [h]) hk⟩
    by_cases d2 : d = 2
    · subst d2
      obtain ⟨⟨ob, f, ha⟩, h⟩ := h
      refine ⟨⟨ob, f, ha⟩, (ha _ _).2 fun t n hn => ?_⟩
      obtain ⟨u, e, hk⟩ := (ha _ _).1 h t n hn
      exact ⟨u, e, v, readv_le _ (Hp.le_set hn) hv, hk⟩
    · obtain rfl : d = 3 := by omega
      refine wpH_real _ hR (fun nx S' hR' hp => opPost_real (fun u S2 hR2 hk => ?_) hR' hp) h
      obtain ⟨hh, hk⟩ := hk
      exact ⟨Holds_sub (fun g hg => List.mem_cons_of_mem _ hg) hh, v, hh (p, s, v) List.mem_cons_self hu, hk⟩
  by_cases c2 : c = 2
  · subst c2
    have d2 : d = 2 := by
      have : d = 1 ∨ d = 2 ∨ d = 3 := by omega
      rcases this with rfl | rfl | rfl
      · simp [pairOk] at hok
      · rfl
      · simp [pairOk] at hok
    subst d2
    obtain ⟨_, _, _, _, ⟨ob2, f2, ha2⟩, _⟩ := T_some hR h
    obtain ⟨⟨ob, f, ha⟩, h⟩ := h
    refine ⟨⟨ob2, f2, ha2⟩, (ha2 _ _).2 fun t2 n2 hn2 => ⟨_, rfl, ⟨ob, f, ha⟩, (ha _ _).2 fun t1 n1 hn1 => ⟨_, rfl, ?_⟩⟩⟩
    have hne : n1 ≠ n2 := fun e => by subst e; rw [set_same] at hn1; cases hn1
    rw [set_ne hne] at hn1
    obtain ⟨v, e, _, h⟩ := (ha _ _).1 h t1 n1 hn1
    cases e
    obtain ⟨u, e, hk⟩ := (ha2 _ _).1 h t2 n2 (by rw [set_ne (fun e => hne e.symm)]; exact hn2)
    cases e
    rw [← set_set_ne hne]
    exact hk
  · obtain rfl : c = 3 := by omega
    have d2 : d = 2 := by
      have : d = 1 ∨ d = 2 ∨ d = 3 := by omega
      rcases this with rfl | rfl | rfl
      · simp [pairOk] at hok
      · rfl
      · simp [pairOk] at hok
    subst d2
    obtain ⟨_, _, _, _, ⟨ob, f, ha⟩, _⟩ := T_some hR h
    refine ⟨⟨ob, f, ha⟩, (ha _ _).2 fun t n hn => ⟨_, rfl, ?_⟩⟩
    refine wpH_real _ (hR.set _ _) ?_ (wpH_beside s (ob t) hn h)
    rintro nx S' hR' ⟨S1, hn1, rfl, hp⟩
    have fin : ∀ v S2, S2 n = Option.none → (Holds P un p S2 G ∧ T P un 2 i s2 S2 G (fun u S2 G2 => K v u S2 G2)) → Holds P un p (S2.set n (ob t)) G ∧ K v (f t n) (S2.set n (ob t)) G := by
      rintro v S2 hn2 ⟨hh, _, hk⟩
      obtain ⟨u, e, hk⟩ := (ha _ _).1 hk t n hn2
      cases e
      exact ⟨Holds_le (Hp.le_set hn2) hh, hk⟩
    cases nx <;> simp only [opPost] at hp ⊢
    case value v => exact fin v S1 hn1 hp
    case skip => exact fin _ S1 hn1 hp
    case enter g args =>
      refine callWp_mono (callWp_beside hn1 (ob t) hp) ?_
      rintro v T' ⟨S2, hn2, rfl, hk⟩
      exact fin v S2 hn2 hk
    case round l f tmps assign body =>
      refine roundWp_mono (roundWp_beside hn1 (ob t) hp) ?_
      rintro v T' ⟨S2, hn2, rfl, hk⟩
      exact fin v S2 hn2 hk
end

/-! ### a region, in one order -/
section region
variable (P : Program) (ops : Array Oper) (un : Nat → Nat → Bool) (cl : Nat → Nat)
def semAt (o : Oper) (a : Act) : Sem Next := if Region.wanted o (yielded ops a.tmps) = true then execOp a.eval o else .pure (.value undef)
def clsAt (i : Nat) (o : Oper) (a : Act) : Nat := if Region.wanted o (yielded ops a.tmps) = true then cl i else 0
def stepG (i : Nat) (a : Act) (S : Hp) (G : Held) (K : Act → Hp → Held → Prop) : Prop :=
  match ops[i]? with
  | none => False
  | some o => T P un (clsAt ops cl i o a) i (semAt ops o a) S G (fun v S' G' => K (a.put o.dst v) S' G')
def regWp (Q : Act → Hp → Prop) : List Nat → Act → Hp → Held → Prop
  | [], a, S, _ => Q a S
  | i :: r, a, S, G => stepG P ops un cl i a S G (regWp Q r)
end region
section
variable {P : Program} {ops : Array Oper} {un : Nat → Nat → Bool} {cl : Nat → Nat}
theorem stepG_mono {i : Nat} {a : Act} {S : Hp} {G : Held} {K K' : Act → Hp → Held → Prop} (hR : Real S) (hm : ∀ a S G, Real S → K a S G → K' a S G) (h : stepG P ops un cl i a S G K) : stepG P ops un cl i a S G K' := by
  unfold stepG at *
  split
  · rename_i e; rw [e] at h; exact h
  · rename_i o e; rw [e] at h; exact T_mono hR (fun v S' G' hR' hk => hm _ _ _ hR' hk) h
theorem T_sub {c i : Nat} {s : Sem Next} {S : Hp} {G G' : Held} {K : Value → Hp → Held → Prop} (hs : ∀ g, g ∈ G' → g ∈ G) (hK : ∀ v S G G', (∀ g, g ∈ G' → g ∈ G) → K v S G → K v S G') (h : T P un c i s S G K) : T P un c i s S G' K := by
  unfold T at *
  split
  · obtain ⟨v, hv, h⟩ := h; exact ⟨v, hv, hK _ _ _ _ hs h⟩
  · obtain ⟨v, hv, h⟩ := h; exact ⟨v, hv, hK _ _ _ _ (fun g hg => by simp at hg ⊢; rcases hg with h | h <;> simp [h, hs _]) h⟩
  · obtain ⟨ha, h⟩ := h; exact ⟨ha, wpH_mono _ (fun nx S' ⟨v, e, hk⟩ => ⟨v, e, hK _ _ _ _ hs hk⟩) h⟩
  · rename_i h0 h1 h2
    split at h
    · exact absurd rfl h0
    · exact absurd rfl h1
    · exact absurd rfl h2
    · exact wpH_mono _ (fun nx S' hp => opPost_mono (fun v S2 hk => ⟨Holds_sub hs hk.1, hK _ _ _ _ hs hk.2⟩) hp) h
theorem regWp_sub {Q : Act → Hp → Prop} (l : List Nat) : ∀ {a : Act} {S : Hp} {G G' : Held}, (∀ g, g ∈ G' → g ∈ G) → regWp P ops un cl Q l a S G → regWp P ops un cl Q l a S G' := by
  induction l with
  | nil => intro a S G G' _ h; exact h
  | cons i r ih =>
    intro a S G G' hs h
    simp only [regWp, stepG] at h ⊢
    split
    · rename_i e; rw [e] at h; exact h
    · rename_i o e; rw [e] at h; exact T_sub hs (fun v S G G' hs hk => ih hs hk) h

theorem sem_put {o : Oper} (hs : ∀ cs b, o.op ≠ .select cs b) {a : Act} {dst : Option Tmp} {v : Value} (h : ∀ d, dst = some d → d ∉ o.looksAt ops) : semAt ops o (a.put dst v) = semAt ops o a := by
  unfold semAt
  rw [wanted_put o a dst v h, execOp_put o hs a dst v h]
theorem cls_put {i : Nat} {o : Oper} {a : Act} {dst : Option Tmp} {v : Value} (h : ∀ d, dst = some d → d ∉ o.looksAt ops) : clsAt ops cl i o (a.put dst v) = clsAt ops cl i o a := by
  unfold clsAt
  rw [wanted_put o a dst v h]
theorem pairOk_zero {c d : Nat} {b1 b2 : Bool} (h : pairOk c d = true) : pairOk (if b1 = true then c else 0) (if b2 = true then d else 0) = true := by
  cases b1 <;> cases b2 <;> simp_all [pairOk]

def noSelect (o : Oper) : Bool := match o.op with | .select .. => false | _ => true
theorem noSelect_spec {o : Oper} (h : noSelect o = true) : ∀ cs b, o.op ≠ .select cs b := fun cs b e => by simp [noSelect, e] at h

theorem step_swap {p i : Nat} {op oi : Oper} (hp : ops[p]? = some op) (hi : ops[i]? = some oi) (hap : op.apart ops oi = true) (hsp : noSelect op = true) (hsi : noSelect oi = true)
    (hcp : cl p ≤ 3) (hci : cl i ≤ 3) (hok : pairOk (cl p) (cl i) = true) (hu : un p i = true) {a : Act} {S : Hp} {G : Held} {K : Act → Hp → Held → Prop} (hR : Real S)
    (hK : ∀ a S G G', (∀ g, g ∈ G' → g ∈ G) → K a S G → K a S G')
    (h : stepG P ops un cl p a S G (fun a1 S1 G1 => stepG P ops un cl i a1 S1 G1 K)) : stepG P ops un cl i a S G (fun a1 S1 G1 => stepG P ops un cl p a1 S1 G1 K) := by
  obtain ⟨h1, h2, h3⟩ := Oper.apart_spec hap
  unfold stepG at *
  simp only [hp, hi] at h ⊢
  have e1 : ∀ v, semAt ops oi (a.put op.dst v) = semAt ops oi a := fun v => sem_put (noSelect_spec hsi) h1
  have e2 : ∀ v, clsAt ops cl i oi (a.put op.dst v) = clsAt ops cl i oi a := fun v => cls_put h1
  have e3 : ∀ v, semAt ops op (a.put oi.dst v) = semAt ops op a := fun v => sem_put (noSelect_spec hsp) h3
  have e4 : ∀ v, clsAt ops cl p op (a.put oi.dst v) = clsAt ops cl p op a := fun v => cls_put h3
  simp only [e1, e2] at h
  simp only [e3, e4]
  have hc1 : clsAt ops cl p op a ≤ 3 := by unfold clsAt; split <;> omega
  have hc2 : clsAt ops cl i oi a ≤ 3 := by unfold clsAt; split <;> omega
  have hok' : pairOk (clsAt ops cl p op a) (clsAt ops cl i oi a) = true := pairOk_zero hok
  have := T_swap (K := fun v u S G => K ((a.put op.dst v).put oi.dst u) S G) hc1 hc2 hok' hu hR (fun v u S G G' hs hk => hK _ _ _ _ hs hk) h
  refine T_mono hR ?_ this
  intro u S1 G1 hR1 hk
  refine T_mono hR1 ?_ hk
  intro v S2 G2 _ hk
  rw [← Act.put_comm a v u h2]
  exact hk

/-- What may be moved ahead of all that stands before it, is. -/
def MayPass (ops : Array Oper) (un : Nat → Nat → Bool) (cl : Nat → Nat) (p i : Nat) : Prop :=
  ∃ op oi, ops[p]? = some op ∧ ops[i]? = some oi ∧ op.apart ops oi = true ∧ noSelect op = true ∧ noSelect oi = true ∧ cl p ≤ 3 ∧ cl i ≤ 3 ∧ pairOk (cl p) (cl i) = true ∧ un p i = true
theorem bubble {Q : Act → Hp → Prop} {i : Nat} (post : List Nat) (pre : List Nat) : ∀ {a : Act} {S : Hp} {G : Held}, Real S → (∀ p, p ∈ pre → MayPass ops un cl p i) → regWp P ops un cl Q (pre ++ i :: post) a S G → stepG P ops un cl i a S G (regWp P ops un cl Q (pre ++ post)) := by
  induction pre with
  | nil => intro a S G _ _ h; exact h
  | cons p pre ih =>
    intro a S G hR hm h
    obtain ⟨op, oi, hp, hi, hap, hsp, hsi, hcp, hci, hok, hu⟩ := hm p List.mem_cons_self
    have h1 : stepG P ops un cl p a S G (fun a1 S1 G1 => stepG P ops un cl i a1 S1 G1 (regWp P ops un cl Q (pre ++ post))) :=
      stepG_mono hR (fun a1 S1 G1 hR1 hk => ih hR1 (fun q hq => hm q (List.mem_cons_of_mem _ hq)) hk) h
    exact step_swap hp hi hap hsp hsi hcp hci hok hu hR (fun a S G G' hs hk => regWp_sub _ hs hk) h1

theorem stepG_sound {ro : Option Nat} {Q : Exit → Act → World → Prop} {i : Nat} {a : Act} {S : Hp} {G : Held} {K : Act → Hp → Held → Prop} {w : World} {next : Act → World → Prop} (h : stepG P ops un cl i a S G K) (hi : S.In w)
    (hn : ∀ a' S' G' w', K a' S' G' → Step S w S' w' → next a' w') : wpOpIn (FC ro) 0 P ops Q i next a w := by
  unfold stepG at h
  unfold wpOpIn
  split at h
  · exact h.elim
  · rename_i o e
    simp only [e]
    by_cases hw : Region.wanted o (yielded ops a.tmps) = true
    · rw [if_pos hw]
      have hs : semAt ops o a = execOp a.eval o := if_pos hw
      rw [hs] at h
      have hR := Real.of_In hi
      have key : opWp P o a S (fun v S' => ∃ G', K (a.put o.dst v) S' G') := by
        unfold T at h
        split at h
        · obtain ⟨v, hv, hk⟩ := h; exact readv_wp _ (readv_le _ (Hp.none_le S) hv) ⟨G, hk⟩
        · obtain ⟨v, hv, hk⟩ := h; exact readv_wp _ hv ⟨_, hk⟩
        · obtain ⟨_, hk⟩ := h
          refine wpH_mono _ ?_ hk
          rintro nx S' ⟨v, rfl, hk⟩
          exact ⟨G, hk⟩
        · exact opWp_mono h fun v S' hk => ⟨G, hk.2⟩
      exact opWp_sound key hi fun v S' w' ⟨G', hk⟩ hs => hn _ _ _ _ hk hs
    · rw [if_neg hw]
      have hs : semAt ops o a = .pure (.value undef) := if_neg hw
      have hc : clsAt ops cl i o a = 0 := if_neg hw
      rw [hs, hc] at h
      obtain ⟨v, hv, hk⟩ := h
      simp only [readv, Option.some.injEq, Next.value.injEq] at hv
      subst hv
      exact ⟨fun f _ => fc_fn, hn _ _ _ _ hk (Step.refl hi)⟩
theorem stepG_defers {i : Nat} {a : Act} {S : Hp} {G : Held} {K : Act → Hp → Held → Prop} (hR : Real S) (h : stepG P ops un cl i a S G K) : stepG P ops un cl i a S G (fun a' S' G' => a'.defers = a.defers ∧ K a' S' G') := by
  unfold stepG at *
  split
  · rename_i e; rw [e] at h; exact h
  · rename_i o e
    rw [e] at h
    exact T_mono hR (fun v S' G' _ hk => ⟨by cases o.dst <;> rfl, hk⟩) h

/-! ### every order -/
def predsOf (o : Oper) : List Nat := (o.after.toList.filter (fun e => Region.binds .any e)).map (·.on)
def ancOk (ops : Array Oper) (M : List (List Nat)) : Bool :=
  (List.range ops.size).all fun i => match ops[i]? with
    | none => false
    | some o => (predsOf o).all (fun q => decide (q < i)) && (M.getD i []).all fun p => (predsOf o).any fun q => q == p || (M.getD q []).contains p
def nodupB : List Nat → Bool
  | [] => true
  | x :: l => !l.contains x && nodupB l
theorem nodupB_spec : ∀ {l : List Nat}, nodupB l = true → l.Nodup
  | [], _ => List.nodup_nil
  | x :: l, h => by
    simp only [nodupB, Bool.and_eq_true] at h
    exact List.nodup_cons.2 ⟨by simpa using h.1, nodupB_spec h.2⟩
def drawOk (ops : Array Oper) (M : List (List Nat)) (cl : List Nat) (l : List Nat) : Bool :=
  ancOk ops M && nodupB l && l.all (fun i => decide (i < ops.size)) && decide (l.length = ops.size) && (List.range ops.size).all (fun i => l.contains i) && ops.all noSelect && cl.all (fun c => decide (c ≤ 3)) &&
  orders l
where
  orders : List Nat → Bool
    | [] => true
    | p :: r => (r.all fun i => (M.getD i []).contains p || (match ops[p]?, ops[i]? with
        | some op, some oi => op.apart ops oi && pairOk (cl.getD p 3) (cl.getD i 3)
        | _, _ => false)) && orders r
def unOf (M : List (List Nat)) (p i : Nat) : Bool := !(M.getD i []).contains p

theorem anc_listed {M : List (List Nat)} (hM : ancOk ops M = true) {listed : Array Bool} (hcl : ∀ i o, ops[i]? = some o → listed.getD i true = true → ∀ q, q ∈ predsOf o → listed.getD q false = true)
    (hin : ∀ q, q < ops.size → (listed.getD q true = true ↔ listed.getD q false = true)) : ∀ (n i : Nat), i < n → ∀ o, ops[i]? = some o → (∀ q, q ∈ predsOf o → listed.getD q false = true) → ∀ p, (M.getD i []).contains p = true → listed.getD p false = true := by
  intro n
  induction n with
  | zero => intro i hi; omega
  | succ n ih =>
    intro i hi o ho hpr p hp
    have hlt : i < ops.size := (Array.getElem?_eq_some_iff.1 ho).1
    unfold ancOk at hM
    rw [List.all_eq_true] at hM
    have h := hM i (List.mem_range.2 hlt)
    simp only [ho, Bool.and_eq_true, List.all_eq_true] at h
    obtain ⟨h1, h2⟩ := h
    have h3 := h2 p (by simpa using hp)
    rw [List.any_eq_true] at h3
    obtain ⟨q, hq, h4⟩ := h3
    have hqi : q < i := by simpa using h1 q hq
    rw [Bool.or_eq_true] at h4
    rcases h4 with h4 | h4
    · have : q = p := by simpa using h4
      subst this
      exact hpr q hq
    · have hqs : q < ops.size := by omega
      obtain ⟨oq, hoq⟩ : ∃ oq, ops[q]? = some oq := ⟨ops[q], Array.getElem?_eq_getElem hqs⟩
      exact ih q (by omega) oq hoq (hcl q oq hoq ((hin q hqs).2 (hpr q hq))) p h4

theorem getD_flip {xs : Array Bool} {i : Nat} (h : i < xs.size) (b c : Bool) : xs.getD i b = xs.getD i c := by simp [Array.getD, h]

theorem getD_set_ne {xs : Array Bool} {i j : Nat} {b c : Bool} (h : i ≠ j) : (xs.setIfInBounds i b).getD j c = xs.getD j c := by
  rw [Array.getD_eq_getD_getElem?, Array.getElem?_setIfInBounds, if_neg h, Array.getD_eq_getD_getElem?]
theorem getD_set_same {xs : Array Bool} {i : Nat} {b c : Bool} (h : i < xs.size) : (xs.setIfInBounds i b).getD i c = b := by
  rw [Array.getD_eq_getD_getElem?, Array.getElem?_setIfInBounds, if_pos rfl, if_pos h]; rfl

theorem mem_split {i : Nat} : ∀ {l : List Nat}, i ∈ l → ∃ pre post, l = pre ++ i :: post
  | x :: l, h => by
    by_cases e : x = i
    · exact ⟨[], l, by rw [e]; rfl⟩
    · obtain ⟨pre, post, rfl⟩ := mem_split ((List.mem_cons.1 h).resolve_left (fun e' => e e'.symm))
      exact ⟨x :: pre, post, rfl⟩

/-- What the static look gives: whoever stands ahead is an ancestor, or may be passed. -/
def Fine (ops : Array Oper) (M : List (List Nat)) (cl : Nat → Nat) (l : List Nat) : Prop :=
  ∀ pre p mid i post, l = pre ++ p :: mid ++ i :: post → (M.getD i []).contains p = true ∨ MayPass ops (unOf M) cl p i

theorem Fine.drop {M : List (List Nat)} {pre post : List Nat} {i : Nat} (h : Fine ops M cl (pre ++ i :: post)) : Fine ops M cl (pre ++ post) := by
  intro a p mid j b e
  have hs : List.Sublist [p, j] (pre ++ post) := by
    rw [e]
    simp only [List.append_assoc, List.cons_append]
    refine List.Sublist.trans ?_ (List.sublist_append_right a _)
    refine List.Sublist.cons_cons p ?_
    refine List.Sublist.trans ?_ (List.sublist_append_right mid _)
    exact List.Sublist.cons_cons j (List.nil_sublist _)
  have hs2 : List.Sublist [p, j] (pre ++ i :: post) := hs.trans (List.Sublist.append (List.Sublist.refl pre) (List.sublist_cons_self i post))
  have two : ∀ {l : List Nat}, List.Sublist [p, j] l → ∃ a mid b, l = a ++ p :: mid ++ j :: b := by
    intro l hl
    induction l with
    | nil => cases hl
    | cons x l ih =>
      cases hl with
      | cons _ h => obtain ⟨a, m, b, rfl⟩ := ih h; exact ⟨x :: a, m, b, rfl⟩
      | cons_cons _ h =>
        have hj : j ∈ l := h.subset (List.mem_singleton.2 rfl)
        obtain ⟨m, b, rfl⟩ := mem_split hj
        exact ⟨[], m, b, rfl⟩
  obtain ⟨a', m', b', e'⟩ := two hs2
  exact h a' p m' j b' e'

structure Inv (ops : Array Oper) (listed : Array Bool) (l : List Nat) : Prop where
  size : listed.size = ops.size
  mem : ∀ i, i ∈ l ↔ i < ops.size ∧ listed.getD i true = false
  nodup : l.Nodup
  closed : ∀ i o, ops[i]? = some o → listed.getD i true = true → ∀ q, q ∈ predsOf o → listed.getD q false = true

theorem ready_iff {listed : Array Bool} {i : Nat} : i ∈ Region.ready .any ops listed ↔ i < ops.size ∧ listed.getD i true = false ∧ ∃ o, ops[i]? = some o ∧ ∀ q, q ∈ predsOf o → listed.getD q false = true := by
  unfold Region.ready
  rw [List.mem_filter, List.mem_range]
  constructor
  · rintro ⟨hi, h⟩
    rw [Bool.and_eq_true] at h
    obtain ⟨h1, h2⟩ := h
    refine ⟨hi, by simpa using h1, ops[i], Array.getElem?_eq_getElem hi, ?_⟩
    rw [Array.getElem?_eq_getElem hi] at h2
    simp only [Option.map_some, Option.getD_some, Array.all_eq_true_iff_forall_mem] at h2
    intro q hq
    unfold predsOf at hq
    rw [List.mem_map] at hq
    obtain ⟨e, he, rfl⟩ := hq
    rw [List.mem_filter] at he
    have := h2 e (by simpa using he.1)
    rw [he.2] at this
    simpa using this
  · rintro ⟨hi, h1, o, ho, h2⟩
    refine ⟨hi, ?_⟩
    rw [Bool.and_eq_true]
    refine ⟨by simp [h1], ?_⟩
    rw [ho]
    simp only [Option.map_some, Option.getD_some, Array.all_eq_true_iff_forall_mem]
    intro e he
    by_cases hb : Region.binds .any e = true
    · have := h2 e.on (by unfold predsOf; rw [List.mem_map]; exact ⟨e, List.mem_filter.2 ⟨by simpa using he, hb⟩, rfl⟩)
      simp [this]
    · simp [hb]

theorem any_sound {ro : Option Nat} {ds : List Deferred} {M : List (List Nat)} (hM : ancOk ops M = true) {Q : Act → Hp → Prop} {QW : Exit → Act → World → Prop} {S0 : Hp} {w0 : World} (hq : ∀ a S w, a.defers = ds → Q a S → Step S0 w0 S w → QW .normal a w) :
    ∀ (fuel : Nat) (l : List Nat) (listed : Array Bool) (a : Act) (S : Hp) (G : Held) (w : World), a.defers = ds → l.length ≤ fuel → Inv ops listed l → Fine ops M cl l → regWp P ops (unOf M) cl Q l a S G → Step S0 w0 S w → wpAnyIn (FC ro) 0 P .any ops QW fuel listed a w := by
  have preds_lt : ∀ i o, ops[i]? = some o → ∀ q, q ∈ predsOf o → q < i := by
    intro i o ho q hq
    have hlt : i < ops.size := (Array.getElem?_eq_some_iff.1 ho).1
    unfold ancOk at hM
    rw [List.all_eq_true] at hM
    have h := hM i (List.mem_range.2 hlt)
    simp only [ho, Bool.and_eq_true, List.all_eq_true] at h
    simpa using h.1 q hq
  have rdy : ∀ {listed : Array Bool} {l : List Nat}, Inv ops listed l → Region.ready .any ops listed = [] → l = [] := by
    intro listed l hI hr
    cases l with
    | nil => rfl
    | cons x l =>
      exfalso
      have hx := (hI.mem x).1 List.mem_cons_self
      -- the least one that is not listed is ready
      obtain ⟨m, ⟨hm1, hm2⟩, hmin⟩ := exists_least (p := fun i => i < ops.size ∧ listed.getD i true = false) ⟨x, hx⟩
      have : m ∈ Region.ready .any ops listed := by
        rw [ready_iff]
        refine ⟨hm1, hm2, ops[m], Array.getElem?_eq_getElem hm1, ?_⟩
        intro q hq
        have hlt := preds_lt m _ (Array.getElem?_eq_getElem hm1) q hq
        cases hl : listed.getD q false with
        | true => rfl
        | false =>
          have hqs : q < listed.size := by rw [hI.size]; omega
          have := hmin q ⟨by omega, by rw [getD_flip hqs true false]; exact hl⟩
          omega
      rw [hr] at this
      cases this
  intro fuel
  induction fuel with
  | zero =>
    intro l listed a S G w hds hlen hI _ h hs
    have : l = [] := List.eq_nil_of_length_eq_zero (by omega)
    subst this
    refine ⟨?_, hq _ _ _ hds h hs⟩
    cases hr : Region.ready .any ops listed with
    | nil => rfl
    | cons x r =>
      have hx : x ∈ Region.ready .any ops listed := by rw [hr]; exact List.mem_cons_self
      rw [ready_iff] at hx
      exact absurd ((hI.mem x).2 ⟨hx.1, hx.2.1⟩) (by simp)
  | succ fuel ih =>
    intro l listed a S G w hds hlen hI hF h hs
    refine ⟨fun hr => ?_, fun i hi => ?_⟩
    · obtain rfl := rdy hI hr
      exact hq _ _ _ hds h hs
    · rw [ready_iff] at hi
      obtain ⟨his, hil, o, ho, hpr⟩ := hi
      have hmem : i ∈ l := (hI.mem i).2 ⟨his, hil⟩
      obtain ⟨pre, post, rfl⟩ := mem_split hmem
      have hpass : ∀ p, p ∈ pre → MayPass ops (unOf M) cl p i := by
        intro p hp
        obtain ⟨a1, b1, rfl⟩ := mem_split hp
        rcases hF a1 p b1 i post (by simp) with hc | hc
        · exfalso
          have hl := anc_listed hM hI.closed (fun q hq => by rw [getD_flip (by rw [hI.size]; exact hq) true false]) (i + 1) i (Nat.lt_succ_self i) o ho hpr p hc
          have hpm := (hI.mem p).1 (by simp)
          rw [getD_flip (by rw [hI.size]; exact hpm.1) true false, hl] at hpm
          exact absurd hpm.2 (by simp)
        · exact hc
      have hb := bubble post pre (Real.of_In hs.inn) hpass h
      refine stepG_sound (stepG_defers (Real.of_In hs.inn) hb) hs.inn ?_
      rintro a' S' G' w' ⟨hde, hk⟩ hs'
      have hnd : (pre ++ post).Nodup ∧ i ∉ pre ++ post := by
        have := hI.nodup
        rw [List.nodup_append] at this
        obtain ⟨n1, n2, n3⟩ := this
        rw [List.nodup_cons] at n2
        refine ⟨List.nodup_append.2 ⟨n1, n2.2, fun x hx y hy => n3 x hx y (List.mem_cons_of_mem _ hy)⟩, ?_⟩
        rw [List.mem_append]
        rintro (hx | hx)
        · exact n3 i hx i List.mem_cons_self rfl
        · exact n2.1 hx
      refine ih (pre ++ post) (listed.setIfInBounds i true) a' S' G' w' (hde.trans hds) (by simp at hlen ⊢; omega) ⟨by simp [hI.size], ?_, hnd.1, ?_⟩ hF.drop hk (hs.trans hs')
      · intro j
        have hj := hI.mem j
        have hils : i < listed.size := by rw [hI.size]; exact his
        by_cases e : j = i
        · subst e
          constructor
          · intro hx; exact absurd hx hnd.2
          · rintro ⟨_, hx⟩
            rw [getD_set_same hils] at hx
            cases hx
        · have e1 : (listed.setIfInBounds i true).getD j true = listed.getD j true := getD_set_ne (fun e' => e e'.symm)
          rw [e1, ← hj]
          simp [e]
      · intro j oj hoj hlj q hq
        by_cases e : j = i
        · subst e
          have : oj = o := by rw [ho] at hoj; exact (Option.some.inj hoj).symm
          subst this
          have := hpr q hq
          by_cases eq : q = j
          · subst eq; exact getD_set_same (by rw [hI.size]; exact his)
          · rw [getD_set_ne (fun e' => eq e'.symm)]; exact this
        · have e1 : (listed.setIfInBounds i true).getD j true = listed.getD j true := getD_set_ne (fun e' => e e'.symm)
          rw [e1] at hlj
          have := hI.closed j oj hoj hlj q hq
          by_cases eq : q = i
          · subst eq; exact getD_set_same (by rw [hI.size]; exact his)
          · rw [getD_set_ne (fun e' => eq e'.symm)]; exact this
end

theorem drawOk_fine {ops : Array Oper} {M : List (List Nat)} {cl l : List Nat} (h : drawOk ops M cl l = true) :
    ancOk ops M = true ∧ l.length = ops.size ∧ (∀ i, i < ops.size → i ∈ l) ∧ l.Nodup ∧ (∀ i, i ∈ l → i < ops.size) ∧ Fine ops M (fun i => cl.getD i 3) l := by
  unfold drawOk at h
  simp only [Bool.and_eq_true] at h
  obtain ⟨⟨⟨⟨⟨⟨⟨h1, ha⟩, hb⟩, h2⟩, h3⟩, h4⟩, h5⟩, h6⟩ := h
  refine ⟨h1, by simpa using h2, ?_, nodupB_spec ha, ?_, ?_⟩
  · intro i hi
    rw [List.all_eq_true] at h3
    simpa using h3 i (List.mem_range.2 hi)
  · intro i hi
    rw [List.all_eq_true] at hb
    simpa using hb i hi
  · have hcl : ∀ i, cl.getD i 3 ≤ 3 := by
      intro i
      rw [List.getD_eq_getElem?_getD]
      cases hc : cl[i]? with
      | none => simp
      | some c =>
        rw [List.all_eq_true] at h5
        simpa using h5 c (List.mem_of_getElem? hc)
    have hns : ∀ (i : Nat) o, ops[i]? = some o → noSelect o = true := by
      intro i o ho
      rw [Array.all_eq_true_iff_forall_mem] at h4
      exact h4 o (Array.mem_of_getElem? ho)
    clear h2 h3 h4 h5 ha hb
    induction l with
    | nil => intro pre p mid i post e; cases pre <;> simp at e
    | cons x l ih =>
      simp only [drawOk.orders, Bool.and_eq_true, List.all_eq_true] at h6
      intro pre p mid i post e
      cases pre with
      | cons y pre =>
        simp at e
        exact ih h6.2 pre p mid i post (by simp [e.2])
      | nil =>
        simp at e
        obtain ⟨rfl, rfl⟩ := e
        have h7 := h6.1 i (by simp)
        rw [Bool.or_eq_true] at h7
        rcases h7 with h7 | h7
        · exact .inl h7
        · by_cases hc : (M.getD i []).contains x = true
          · exact .inl hc
          · right
            cases ho1 : ops[x]? with
            | none => simp [ho1] at h7
            | some op =>
              cases ho2 : ops[i]? with
              | none => simp [ho1, ho2] at h7
              | some oi =>
                simp only [ho1, ho2, Bool.and_eq_true] at h7
                exact ⟨op, oi, ho1, ho2, h7.1, hns _ _ ho1, hns _ _ ho2, hcl _, hcl _, h7.2, by unfold unOf; simpa using hc⟩

theorem codeWp_draw {r : Option Nat} {B : Nat} {P : Program} {id : Nat} {ops : Array Oper} {Q : Exit → Act → Hp → Prop} {a : Act} {S : Hp} (M : List (List Nat)) (cl l : List Nat) (hm : P.follows .mixedOrders = true) (hd : drawOk ops M cl l = true)
    (h : Real S → regWp P ops (unOf M) (fun i => cl.getD i 3) (Q .normal) l a S []) : codeWp r B P (.region id ops true) Q a S := by
  obtain ⟨h1, h2, h3, n1, n2, h4⟩ := drawOk_fine hd
  intro w hi hdef
  refine wpIn_region_any hm ?_
  have hs := Step.drawn hi (w.drawn + 1)
  refine any_sound (ds := a.defers) h1 (S0 := S) (w0 := w) (fun a' S' w' he hq hs => ⟨S', hq, hs, by rw [he]; exact hdef.step hs⟩) ops.size l _ a S [] _ rfl (by omega) ⟨by simp, ?_, n1, ?_⟩ h4 (h (Real.of_In hi)) hs
  · intro i
    constructor
    · intro hx; exact ⟨n2 i hx, by simp [Array.getD_eq_getD_getElem?, n2 i hx]⟩
    · rintro ⟨hx, _⟩; exact h3 i hx
  · intro i o ho hl
    have hlt : i < ops.size := (Array.getElem?_eq_some_iff.1 ho).1
    simp [Array.getD_eq_getD_getElem?, hlt] at hl
end Go.PH
