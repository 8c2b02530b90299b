/- PH: slices: their cells; a slice in a block of its own, and what is appended to it. -/
import Derived.Test.YtlonednppnmpeaaGreatDoorStep
set_option linter.all false
set_option linter.unusedSimpArgs false
namespace Go.PH
open Go
/-- The cells of a slice, where they lie. -/
def SlAt (S : Hp) (v : Value) (n : Nat) (l : List Value) : Prop :=
  ∃ a c, v = .slice a n c ∧ n ≤ c ∧ (a = none → n = 0 ∧ l = []) ∧ ∀ p, a = some p → p.spot = none ∧ CellsAt S p 0 l
/-- A slice in a block of its own, beside T: S is T and that block. -/
def Own (size : Nat) (T S : Hp) (v : Value) (n : Nat) (l : List Value) : Prop :=
  (v = .slice none 0 0 ∧ n = 0 ∧ l = [] ∧ S = T) ∨
  ∃ b c e pad, T b = none ∧ v = .slice (some ⟨b, 0, none⟩) n c ∧ n ≤ c ∧ S = T.set b (.cells (l ++ pad).toArray e (0, 0)) ∧ l.length = n * size ∧ pad.length = (c - n) * size
theorem CellsAt_le {S T : Hp} (h : S.le T) {a : Addr} : ∀ {l : List Value} {i : Nat}, CellsAt S a i l → CellsAt T a i l := by
  intro l
  induction l with
  | nil => intro i _; trivial
  | cons v l ih => intro i hc; exact ⟨cell?_le h hc.1, ih hc.2⟩
theorem SlAt_le {S T : Hp} (h : S.le T) {v : Value} {n : Nat} {l : List Value} (hs : SlAt S v n l) : SlAt T v n l := by
  obtain ⟨a, c, e, h1, h2, h3⟩ := hs
  exact ⟨a, c, e, h1, h2, fun p hp => ⟨(h3 p hp).1, CellsAt_le h (h3 p hp).2⟩⟩
theorem CellsAt_get {S : Hp} {a : Addr} : ∀ {l : List Value} {i j : Nat} {v : Value}, CellsAt S a i l → l[j]? = some v → S.cell? (a.add (i + j)) = some v := by
  intro l
  induction l with
  | nil => intro i j v _ h; simp at h
  | cons u l ih =>
    intro i j v hc h
    cases j with
    | zero => simp at h; subst h; exact hc.1
    | succ j =>
      simp only [List.getElem?_cons_succ] at h
      have := ih hc.2 h
      rw [show i + (j + 1) = i + 1 + j by omega]
      exact this
theorem CellsAt_block {S : Hp} {b : Nat} {e : TypeId} {f : Nat × Nat} {all : List Value} (h : S b = some (.cells all.toArray e f)) : ∀ {l : List Value} {i off : Nat}, (∀ j, j < l.length → all[off + i + j]? = l[j]?) → CellsAt S ⟨b, off, none⟩ i l := by
  intro l
  induction l with
  | nil => intro i off _; trivial
  | cons v l ih =>
    intro i off hl
    refine ⟨?_, ih fun j hj => ?_⟩
    · rw [LN, cell_of h]
      have := hl 0 (by simp)
      simpa using this
    · have := hl (j + 1) (by simpa using hj)
      rw [show off + (i + 1) + j = off + i + (j + 1) by omega]
      simpa using this
theorem Own.le {size : Nat} {T S : Hp} {v : Value} {n : Nat} {l : List Value} (h : Own size T S v n l) : T.le S := by
  rcases h with ⟨_, _, _, rfl⟩ | ⟨b, c, e, pad, hb, _, _, rfl, _⟩
  · exact Hp.le_refl _
  · exact Hp.le_set hb
theorem Own.at {size : Nat} {T S : Hp} {v : Value} {n : Nat} {l : List Value} (h : Own size T S v n l) : SlAt S v n l := by
  rcases h with ⟨rfl, rfl, rfl, rfl⟩ | ⟨b, c, e, pad, hb, rfl, hn, rfl, hl, _⟩
  · exact ⟨none, 0, rfl, Nat.le_refl _, fun _ => ⟨rfl, rfl⟩, fun p hp => by cases hp⟩
  · refine ⟨_, c, rfl, hn, fun h => (by cases h), fun p hp => ?_⟩
    cases hp
    refine ⟨rfl, CellsAt_block (all := l ++ pad) LH fun j hj => ?_⟩
    rw [show (0 + 0 + j) = j by omega, List.getElem?_append_left hj]
theorem Own.len {size : Nat} {T S : Hp} {v : Value} {n : Nat} {l : List Value} (h : Own size T S v n l) : l.length = n * size := by
  rcases h with ⟨_, rfl, rfl, _⟩ | ⟨b, c, e, pad, _, _, _, _, hl, _⟩
  · simp
  · exact hl
theorem Own.is {size : Nat} {T S : Hp} {v : Value} {n : Nat} {l : List Value} (h : Own size T S v n l) : ∃ a c, v = .slice a n c := by
  rcases h with ⟨rfl, rfl, _, _⟩ | ⟨b, c, e, pad, _, rfl, _⟩
  · exact ⟨_, _, rfl⟩
  · exact ⟨_, _, rfl⟩
theorem putAt_append : ∀ (l' l pad : List Value), l'.length ≤ pad.length → putAt (l ++ pad) l.length l' = l ++ l' ++ pad.drop l'.length := by
  intro l'
  induction l' with
  | nil => intro l pad _; simp [putAt]
  | cons v l' ih =>
    intro l pad h
    cases pad with
    | nil => simp at h
    | cons u pad =>
      simp only [putAt]
      have e : (l ++ u :: pad).set l.length v = (l ++ [v]) ++ pad := by simp
      rw [e]
      have := ih (l ++ [v]) pad (by simpa using h)
      rw [List.length_append, List.length_singleton] at this
      rw [this]
      simp
/-- Something is appended to a slice in a block of its own. -/
theorem app_own {elem size bytes n m : Nat} {zero l l' : List Value} {s x : Value} {T S : Hp} {K : Value → Hp → Prop} (ho : Own size T S s n l) (hz : zero.length = size) (hsrc : ∀ K, K m l' → srcC size x S K) (hl' : l'.length = m * size) (hp : l'.all vplain = true)
    (hb : (n + m) * bytes ≤ 140737488355328) (hk : ∀ v' T' S', T.le T' → Own size T' S' v' (n + m) (l ++ l') → K v' S') : appC elem size bytes zero s x S K := by
  have hle := ho.le
  rcases ho with ⟨rfl, rfl, rfl, rfl⟩ | ⟨b, c, e, pad, hb1, rfl, hn, rfl, hl, hpad⟩
  · unfold appC
    refine hsrc _ ⟨hp, fun h0 => ?_, fun h0 => ⟨hb, [], by simp, fun _ => rfl, fun a e => (by cases e), fun c hc r hr => ?_⟩⟩
    · have hm : m = 0 := by omega
      subst hm
      have : l' = [] := List.eq_nil_of_length_eq_zero (by simpa using hl')
      subst this
      exact .inl ⟨rfl, rfl, hk _ _ _ (Hp.le_refl _) (.inl ⟨rfl, rfl, rfl, rfl⟩)⟩
    · refine hk _ S _ (Hp.le_refl _) (.inr ⟨r, c, elem, zeros zero (c - (0 + m)), hr, rfl, hc, rfl, by simpa using hl', by rw [zeros_length, hz]⟩)
  · unfold appC
    refine hsrc _ ⟨hp, fun h0 => .inr ⟨b, 0, _, rfl, LH, ⟨_, _, _, _, rfl, ?_, .inl (Nat.zero_le _)⟩, ?_⟩, fun h0 => ⟨hb, l, hl, fun e => (by cases e), fun a ea => ?_, fun c' hc r hr => ?_⟩⟩
    · have h1 : (l ++ pad).toArray.size = c * size := by
        simp only [List.size_toArray, List.length_append, hl, hpad]
        rw [← Nat.add_mul]; congr 1; omega
      rw [h1, Nat.zero_add, ← Nat.add_mul]
      exact Nat.mul_le_mul_right _ h0
    · have h1 : l'.length ≤ pad.length := by
        rw [hl', hpad]; exact Nat.mul_le_mul_right _ (by omega)
      simp only [oputs]
      rw [Nat.zero_add, ← hl, putAt_append _ _ _ h1, LI]
      refine hk _ T _ (Hp.le_refl _) (.inr ⟨b, c, e, pad.drop l'.length, hb1, rfl, h0, rfl, by rw [List.length_append, hl, hl', Nat.add_mul], ?_⟩)
      rw [List.length_drop, hpad, hl', ← Nat.sub_mul]; congr 1; omega
    · cases ea
      refine CellsAt_block (all := l ++ pad) LH fun j hj => ?_
      rw [show (0 + 0 + j) = j by omega, List.getElem?_append_left hj]
    · refine hk _ _ _ hle (.inr ⟨r, c', elem, zeros zero (c' - (n + m)), hr, rfl, hc, rfl, by rw [List.length_append, hl, hl', Nat.add_mul], by rw [zeros_length, hz]⟩)
/-- What is appended: a slice's cells. -/
theorem src_at {size n : Nat} {x : Value} {S : Hp} {l : List Value} (h : SlAt S x n l) (hl : l.length = n * size) : ∀ K : Nat → List Value → Prop, K n l → srcC size x S K := by
  intro K hk
  obtain ⟨a, c, rfl, hn, h1, h2⟩ := h
  cases a with
  | none => obtain ⟨rfl, rfl⟩ := h1 rfl; exact ⟨rfl, hk⟩
  | some a => exact ⟨l, hl, (h2 a rfl).2, hk⟩
/-- A call beside a slice of its own. -/
theorem call_own {P : Program} {f : FuncId} {args : Array Value} {size n : Nat} {T S : Hp} {v : Value} {l : List Value} {Q : Value → Hp → Prop} (ho : Own size T S v n l) (h : callWp P f args T Q) : callWp P f args S fun u S' => ∃ T', Own size T' S' v n l ∧ Q u T' := by
  rcases ho with ⟨rfl, rfl, rfl, rfl⟩ | ⟨b, c, e, pad, hb1, rfl, hn, rfl, hl, hpad⟩
  · exact callWp_mono h fun u S' hq => ⟨S', .inl ⟨rfl, rfl, rfl, rfl⟩, hq⟩
  · refine callWp_mono (callWp_beside hb1 _ h) ?_
    rintro u S' ⟨S2, h2, rfl, hq⟩
    exact ⟨S2, .inr ⟨b, c, e, pad, h2, rfl, hn, rfl, hl, hpad⟩, hq⟩
theorem xcall_det {P : Program} {f : FuncId} {args : List Value} {rk : RK} {S S2 : Hp} {v0 : Value} {K : Value → Hp → Prop} {fn : Func} {e : Array Value → Sem Value} (hf : P.funcs[f]? = some fn) (hb : fn.body = none) (hn : (fn.name == "runtime.NumGoroutine") = false) (h1 : Extern.findNext fn = none) (h2 : Extern.find fn = some e)
    (h : wpH P (e args.toArray) S fun v S' => v = v0 ∧ S' = S2) (ht : ∀ K : Value → Prop, K v0 → typR rk K) (hk : K v0 S2) : xcallC P f args rk S K :=
  xcall_use hf hb hn h1 h2 (wpH_mono _ (fun v S' ⟨e1, e2⟩ => by subst e1 e2; exact ht _ ⟨rfl, hk⟩) h)
theorem callv_det {P : Program} {g : Value} {a : List Value} {rk : RK} {S S2 : Hp} {v0 : Value} {K : Value → Hp → Prop} (h : callVal P g a S fun v S' => v = v0 ∧ S' = S2) (ht : ∀ K : Value → Prop, K v0 → typR rk K) (hk : K v0 S2) : callvC P g a rk S K :=
  callv_use h fun v S' ⟨e1, e2⟩ => by subst e1 e2; exact ht _ ⟨rfl, hk⟩
/-- A call, of whose result something is known. -/
theorem call_with {P : Program} {f : FuncId} {a : List Value} {rk : RK} {S : Hp} {K : Value → Hp → Prop} {Q : Value → Hp → Prop} (h : callWp P f a.toArray S Q) (ht : ∀ v S', Q v S' → ∀ K : Value → Prop, K v → typR rk K) (hk : ∀ v S', Q v S' → K v S') : callC P f a rk S K :=
  call_use h fun v S' hq => ht v S' hq _ ⟨rfl, hk v S' hq⟩
theorem ty_tup2 {r1 r2 : RK} {v1 v2 : Value} (h1 : ∀ K : Value → Prop, K v1 → typR r1 K) (h2 : ∀ K : Value → Prop, K v2 → typR r2 K) : ∀ K : Value → Prop, K (.tuple #[v1, v2]) → typR (.tup [r1, r2]) K := fun K h => by
  rw [typR, typRs]
  refine h1 _ ?_
  rw [typRs]
  refine h2 _ ?_
  rw [typRs]
  exact h
theorem ty_tup3 {r1 r2 r3 : RK} {v1 v2 v3 : Value} (h1 : ∀ K : Value → Prop, K v1 → typR r1 K) (h2 : ∀ K : Value → Prop, K v2 → typR r2 K) (h3 : ∀ K : Value → Prop, K v3 → typR r3 K) : ∀ K : Value → Prop, K (.tuple #[v1, v2, v3]) → typR (.tup [r1, r2, r3]) K := fun K h => by
  rw [typR, typRs]
  refine h1 _ ?_
  rw [typRs]
  refine h2 _ ?_
  rw [typRs]
  refine h3 _ ?_
  rw [typRs]
  exact h
/-- Values of their kinds. -/
def isK : CK → Value → Prop
  | .int k, v => ∃ n, v = .int k n
  | .bool, v => ∃ b, v = .bool b
  | .str, v => ∃ s, v = .string s
  | .ptr, v => ∃ a, v = .pointer a
  | .slice, v => ∃ a n c, v = .slice a n c
  | .map, v => ∃ r, v = .map r
  | .func, v => ∃ f a b, v = .func f a b
  | .any, _ => True
theorem typd_is {c : CK} {v : Value} (h : isK c v) (K : Value → Prop) (hk : K v) : typd c K := by
  cases c <;> simp only [isK] at h <;> unfold typd <;> simp only
  case int k => obtain ⟨n, rfl⟩ := h; exact ⟨n, hk⟩
  case bool => obtain ⟨n, rfl⟩ := h; exact ⟨n, hk⟩
  case str => obtain ⟨n, rfl⟩ := h; exact ⟨n, hk⟩
  case ptr => obtain ⟨n, rfl⟩ := h; exact ⟨n, hk⟩
  case slice => obtain ⟨a, n, c, rfl⟩ := h; exact ⟨a, n, c, hk⟩
  case map => obtain ⟨n, rfl⟩ := h; exact ⟨n, hk⟩
  case func => obtain ⟨f, a, b, rfl⟩ := h; exact ⟨f, a, b, hk⟩
  case any => exact ⟨v, hk⟩
def isKs : List CK → List Value → Prop
  | [], [] => True
  | c :: cs, v :: vs => isK c v ∧ isKs cs vs
  | _, _ => False
theorem typL_is : ∀ {cs : List CK} {vs : List Value}, isKs cs vs → ∀ K : List Value → Prop, K vs → typL cs K := by
  intro cs
  induction cs with
  | nil => intro vs h K hk; cases vs with
    | nil => rw [typL]; exact hk
    | cons v vs => exact h.elim
  | cons c cs ih => intro vs h K hk; cases vs with
    | nil => exact h.elim
    | cons v vs => rw [typL]; exact typd_is h.1 _ (ih h.2 _ hk)
theorem ty_one {c : CK} {v : Value} (h : isK c v) : ∀ K : Value → Prop, K v → typR (.one c) K := fun K hk => by rw [typR]; exact typd_is h K hk
theorem ty_agg {cs : List CK} {vs : List Value} (h : isKs cs vs) : ∀ K : Value → Prop, K (.agg vs.toArray) → typR (.agg cs) K := fun K hk => by rw [typR]; exact typL_is h _ hk
/-- A call beside a block. -/
theorem call_beside {P : Program} {f : FuncId} {a : List Value} {rk : RK} {X : Hp} {p : Nat} {o : Obj} {K : Value → Hp → Prop} {Q : Value → Hp → Prop} (hn : X p = none) (h : callWp P f a.toArray X Q) (ht : ∀ v S', Q v S' → ∀ K : Value → Prop, K v → typR rk K)
    (hk : ∀ v X', X' p = none → Q v X' → K v (X'.set p o)) : callC P f a rk (X.set p o) K :=
  call_use (callWp_beside hn o h) fun v S' ⟨X', h1, h2, hq⟩ => by subst h2; exact ht v X' hq _ ⟨rfl, hk v X' h1 hq⟩
theorem holdC_cons {M : List (List Nat)} {i j : Nat} {S : Hp} {H : Hp → Prop} {G : GL} : holdC (some M) i S ((j, H) :: G) = ((unOf M j i = true → H S) ∧ holdC (some M) i S G) := propext Iff.rfl
theorem holdC_nil {M : List (List Nat)} {i : Nat} {S : Hp} : holdC (some M) i S [] = True := propext Iff.rfl
theorem isFn_mk {f : FuncId} {a b : Array Value} : isFn (.func (.func f) a b) := ⟨_, _, _, rfl⟩
theorem set_in {S : Hp} {n : Nat} {o : Obj} (h : S n = none) {m : Nat} {q : Obj} (hm : S m = some q) : (S.set n o) m = some q := Hp.le_set h _ _ hm
theorem GR {N d : Nat} {v : Value} {e : Env} {K : Env → Prop} : putC N (some d) v e K = (d < N ∧ K (upd e d v)) := propext Iff.rfl
theorem GS {N : Nat} {v : Value} {e : Env} {K : Env → Prop} : putC N none v e K = K e := propext Iff.rfl
theorem GP {x y : Value} {K : Value → Prop} : pickC (.bool true) x y K = K x := by simp [pickC]
theorem GQ {x y : Value} {K : Value → Prop} : pickC (.bool false) x y K = K y := by simp [pickC]
/-- A block laid: the heap behind it is known by what it holds. -/
theorem newC_op {S : Hp} {o : Obj} {K : Nat → Hp → Prop} (h : ∀ n S', S n = none → S' n = some o → S.le S' → K n S') : newC S o K := fun n hn => h n _ hn LH (Hp.le_set hn)
/-- A block written: likewise. -/
def Upd (S : Hp) (b : Nat) (o : Obj) (S' : Hp) : Prop := S' b = some o ∧ ∀ m, m ≠ b → S' m = S m
theorem upd_op {S : Hp} {b : Nat} {o : Obj} {K : Hp → Prop} (h : ∀ S', Upd S b o S' → K S') : K (S.set b o) := h _ ⟨LH, fun _ hm => if_neg hm⟩
theorem Upd.keep {S S' : Hp} {b m : Nat} {o q : Obj} (h : Upd S b o S') (hm : m ≠ b) (hq : S m = some q) : S' m = some q := (h.2 m hm).trans hq
theorem CellsAt_upd {S S' : Hp} {b : Nat} {o : Obj} (h : Upd S b o S') {a : Addr} (ha : a.block ≠ b) : ∀ {l : List Value} {i : Nat}, CellsAt S a i l → CellsAt S' a i l := by
  intro l
  induction l with
  | nil => intro i _; trivial
  | cons v l ih =>
    intro i hc
    refine ⟨?_, ih hc.2⟩
    have hb : (a.add i).block = a.block := by unfold Addr.add; split <;> rfl
    have := hc.1
    unfold Hp.cell? at this ⊢
    rw [hb] at this ⊢
    rw [h.2 _ ha]
    exact this
theorem SlAt_upd {S S' : Hp} {b : Nat} {o : Obj} (h : Upd S b o S') {a : Addr} {n c m : Nat} {l : List Value} (ha : a.block ≠ b) (hs : SlAt S (.slice (some a) n c) m l) : SlAt S' (.slice (some a) n c) m l := by
  obtain ⟨a', c', e, h1, h2, h3⟩ := hs
  cases e
  exact ⟨_, _, rfl, h1, fun e => (by cases e), fun p hp => (by cases hp; exact ⟨(h3 a rfl).1, CellsAt_upd h ha (h3 a rfl).2⟩)⟩
/-- What an own slice with something in it is. -/
theorem Own.some {size n : Nat} {T S : Hp} {v : Value} {l : List Value} (h : Own size T S v n l) (hn : 0 < n) : ∃ b c, v = .slice (some ⟨b, 0, none⟩) n c ∧ n ≤ c ∧ T b = none := by
  rcases h with ⟨_, rfl, _, _⟩ | ⟨b, c, e, pad, hb, rfl, hc, _⟩
  · omega
  · exact ⟨b, c, rfl, hc, hb⟩
theorem ne_of {S : Hp} {n p : Nat} {o : Obj} (hn : S n = none) (hp : S p = some o) : n ≠ p := fun e => by subst e; rw [hn] at hp; cases hp
end Go.PH
