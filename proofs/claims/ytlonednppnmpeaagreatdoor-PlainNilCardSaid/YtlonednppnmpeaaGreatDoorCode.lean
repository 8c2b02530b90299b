/- PH: code, compiled: what a function's body comes to, in a form to compute with; sound for its calls. -/
import Derived.Test.YtlonednppnmpeaaGreatDoorRes
import Derived.RangeFuncRecord
set_option linter.all false
set_option linter.unusedSimpArgs false
namespace Go.PH
open Go

abbrev Env := Nat → Value
def upd (e : Env) (d : Nat) (v : Value) : Env := fun t => if t = d then v else e t
def ev (e : Env) : Operand → Value
  | .tmp t => e t
  | .const v => v
  | .global g => .pointer (some ⟨g, 0, none⟩)
  | .func f => .func (.func f) #[] #[]

structure SI where
  i : Nat
  dst : Option Nat
  guard : Option (Nat × Bool)
  src : Bool
  r : RO
/-! short forms -/
abbrev Tm (n : Nat) : Operand := .tmp n
abbrev K64 (n : Int) : Operand := .const (.int .i64 n)
abbrev K8 (n : Int) : Operand := .const (.int .u8 n)
abbrev KB (b : Bool) : Operand := .const (.bool b)
abbrev KS (l : Array UInt8) : Operand := .const (.string ⟨l⟩)
abbrev It (i d : Nat) (r : RO) : SI := ⟨i, some d, none, false, r⟩
abbrev Jt (i : Nat) (r : RO) : SI := ⟨i, none, none, false, r⟩
abbrev Gt (i d t : Nat) (w : Bool) (r : RO) : SI := ⟨i, some d, some (t, w), false, r⟩
abbrev St (i d : Nat) (r : RO) : SI := ⟨i, some d, none, true, r⟩
abbrev Ut (i d t : Nat) (w : Bool) (r : RO) : SI := ⟨i, some d, some (t, w), true, r⟩
inductive RV where
  | tmp (t : Nat) | cell (t : Nat) (c : CK) | cella (t : Nat) (cs : List CK)
inductive SC where
  | skip | ret
  | reg (l : List SI) (M : Option (List (List Nat)))
  | seq (a b : SC)
  | cond (c : Operand) (a b : SC)
  | block (id : Nat) (c : SC)
  | loop (c : SC)
  | exit (id : Nat)
  | scope (c : SC)
  | range (f : Operand) (ps : List Nat) (asg body : SC)
  | bad

def putC (N : Nat) (dst : Option Nat) (v : Value) (e : Env) (K : Env → Prop) : Prop :=
  match dst with
  | none => K e
  | some d => d < N ∧ K (upd e d v)
def gB (v : Value) (w : Bool) : Bool := match v with | .bool b => b == w | _ => false
def gdC (g : Option (Nat × Bool)) (e : Env) (A B : Prop) : Prop :=
  match g with
  | none => A
  | some (t, w) => (gB (e t) w = true → A) ∧ (gB (e t) w = false → B)
def splC (s : Bool) (v : Value) (K : Value → Prop) : Prop :=
  match s, v with
  | true, .bool b => (b = true → K (.bool true)) ∧ (b = false → K (.bool false))
  | _, v => K v
theorem IT {s : Bool} {v : Value} {K : Value → Prop} : splC s v K ↔ K v := by
  cases s <;> cases v <;> first | exact Iff.rfl | (rename_i b; cases b <;> simp [splC])
abbrev GL := List (Nat × (Hp → Prop))
def holdC (M : Option (List (List Nat))) (i : Nat) (S : Hp) (G : GL) : Prop :=
  match M with
  | none => True
  | some M => match G with
    | [] => True
    | (j, H) :: G => (unOf M j i = true → H S) ∧ holdC (some M) i S G
def stepC (P : Program) (M : Option (List (List Nat))) (it : SI) (e : Env) (S : Hp) (G : GL) (K : Value → Hp → GL → Prop) : Prop :=
  match clsR it.r with
  | 0 => pureR it.r (ev e) fun v => splC it.src v fun v => K v S G
  | 1 => readR it.r (ev e) S fun v H => splC it.src v fun v => K v S ((it.i, H) :: G)
  | 2 => allocR it.r (ev e) S fun v S' => K v S' G
  | _ => heavyR P it.r (ev e) S fun v S' => holdC M it.i S' G ∧ splC it.src v fun v => K v S' G
def regC (P : Program) (N : Nat) (M : Option (List (List Nat))) (Q : Env → Hp → Prop) : List SI → Env → Hp → GL → Prop
  | [], e, S, _ => Q e S
  | it :: r, e, S, G => gdC it.guard e (stepC P M it e S G fun v S' G' => putC N it.dst v e fun e' => regC P N M Q r e' S' G') (putC N it.dst undef e fun e' => regC P N M Q r e' S G)
def seqK (next : Env → Hp → Prop) (Q : Exit → Env → Hp → Prop) : Exit → Env → Hp → Prop
  | .normal, e, S => next e S
  | x, e, S => Q x e S
def blkK (id : Nat) (Q : Exit → Env → Hp → Prop) : Exit → Env → Hp → Prop
  | .exit j, e, S => if j = id then Q .normal e S else Q (.exit j) e S
  | x, e, S => Q x e S
def loopK (R : Nat → Env → Hp → Prop) (n : Nat) (Q : Exit → Env → Hp → Prop) : Exit → Env → Hp → Prop
  | .normal, e, S => ∃ m, m < n ∧ R m e S
  | x, e, S => Q x e S
def scopeK (Q : Exit → Env → Hp → Prop) : Exit → Env → Hp → Prop
  | .goto _, _, _ => False
  | x, e, S => Q x e S
/-- A function, or a loop's yield. -/
def Callable (y : Value) : Prop := (∃ f a b, y = .func (.func f) a b) ∨ ∃ l, y = .func (.yield l) #[] #[]
/-- What an iterator does with whatever function it is handed: it calls it, time after time, on what A says, till it says no, or all is done. -/
def IterSpec (P : Program) (g : Value) (A : Nat → List Value → Prop) (Done : Nat → Prop) (R : Hp → Prop) (St : Hp → Hp → Prop) : Prop :=
  ∀ (y : Value) (I : Nat → Hp → Prop) (J : Hp → Prop), Callable y → (∀ k T, I k T → R T) →
    (∀ k args T, A k args → I k T → callVal P y args T fun v T' => (v = .bool true ∧ I (k + 1) T') ∨ (v = .bool false ∧ J T')) →
    ∀ T S, St T S → I 0 T → callVal P g [y] S fun _ S' => ∃ T', T'.le S' ∧ ((∃ k, Done k ∧ I k T') ∨ J T')
/-- What an iterator has for itself may lie beside whatever else. -/
def StOk (St : Hp → Hp → Prop) : Prop := (∀ T S, St T S → T.le S) ∧ ∀ T S n o, St T S → S n = none → St (T.set n o) (S.set n o)
def rndK (next : Env → Hp → Prop) : Exit → Env → Hp → Prop
  | .normal, e, S => next e S
  | _, _, _ => False
def endK (I : Hp → Prop) (J : Exit → Hp → Prop) : Exit → Env → Hp → Prop
  | .normal, _, S => I S
  | .ret, _, S => J .ret S
  | .exit j, _, S => J (.exit j) S
  | _, _, _ => False
def updL (e : Env) (l : List (Nat × Value)) : Env := l.foldl (fun e p => upd e p.1 p.2) e
def isFn (v : Value) : Prop := ∃ f a b, v = .func (.func f) a b
def condC (c : Value) (A B : Prop) : Prop :=
  match c with
  | .bool b => (b = true → A) ∧ (b = false → B)
  | _ => False
def sC (P : Program) (N : Nat) : SC → Env → Hp → (Exit → Env → Hp → Prop) → Prop
  | .skip, e, S, Q => Q .normal e S
  | .ret, e, S, Q => Q .ret e S
  | .reg l M, e, S, Q => regC P N M (Q .normal) l e S []
  | .seq a b, e, S, Q => sC P N a e S (seqK (fun e' S' => sC P N b e' S' Q) Q)
  | .cond c a b, e, S, Q => condC (ev e c) (sC P N a e S Q) (sC P N b e S Q)
  | .block id c, e, S, Q => sC P N c e S (blkK id Q)
  | .loop c, e, S, Q => ∃ (R : Nat → Env → Hp → Prop) (n : Nat), R n e S ∧ ∀ n e S, R n e S → sC P N c e S (loopK R n Q)
  | .exit id, e, S, Q => Q (.exit id) e S
  | .scope c, e, S, Q => sC P N c e S (scopeK Q)
  | .range f ps asg body, e, S, Q => ∃ (A : Nat → List Value → Prop) (Done : Nat → Prop) (R : Hp → Prop) (St : Hp → Hp → Prop) (I : Nat → Hp → Prop) (J : Exit → Hp → Prop) (T0 : Hp),
      isFn (ev e f) ∧ IterSpec P (ev e f) A Done R St ∧ StOk St ∧ (∀ S S', Hp.le S S' → R S → R S') ∧ (∀ k args, A k args → args.length = ps.length) ∧ (∀ p, p ∈ ps → p < N) ∧ St T0 S ∧ I 0 T0 ∧ (∀ k S, I k S → R S) ∧
      (∀ k args S, A k args → I k S → sC P N asg (updL e (ps.zip args)) S (rndK fun e1 S1 => sC P N body e1 S1 (endK (I (k + 1)) J))) ∧
      (∀ k S, Done k → I k S → Q .normal e S) ∧ (∀ S, J .ret S → Q .ret e S) ∧ (∀ j S, J (.exit j) S → Q (.exit j) e S)
  | .bad, _, _, _ => False
/-- No range over a function stands in it. -/
def flat : SC → Bool
  | .seq a b => flat a && flat b
  | .cond _ a b => flat a && flat b
  | .block _ c => flat c
  | .loop c => flat c
  | .scope c => flat c
  | .range _ _ _ _ => false
  | _ => true
section
variable {next : Env → Hp → Prop} {Q : Exit → Env → Hp → Prop} {R : Nat → Env → Hp → Prop} {id j n : Nat} {e : Env} {S : Hp}
theorem seq_k {P : Program} {N : Nat} {a b : SC} (h : ∀ K : Env → Hp → Prop, (∀ e S, sC P N b e S Q → K e S) → sC P N a e S (seqK K Q)) : sC P N (.seq a b) e S Q := h _ fun _ _ h => h
theorem loop_k {P : Program} {N : Nat} {c : SC} (R : Nat → Env → Hp → Prop) (n : Nat) (h0 : R n e S) (h : ∀ n e S, R n e S → sC P N c e S (loopK R n Q)) : sC P N (.loop c) e S Q := ⟨R, n, h0, h⟩
theorem seqK_normal : seqK next Q .normal e S = next e S := rfl
theorem seqK_exit : seqK next Q (.exit j) e S = Q (.exit j) e S := rfl
theorem seqK_ret : seqK next Q .ret e S = Q .ret e S := rfl
theorem blkK_normal : blkK id Q .normal e S = Q .normal e S := rfl
theorem blkK_exit : blkK id Q (.exit j) e S = if j = id then Q .normal e S else Q (.exit j) e S := rfl
theorem blkK_ret : blkK id Q .ret e S = Q .ret e S := rfl
theorem loopK_normal : loopK R n Q .normal e S = ∃ m, m < n ∧ R m e S := rfl
theorem loopK_exit : loopK R n Q (.exit j) e S = Q (.exit j) e S := rfl
theorem loopK_ret : loopK R n Q .ret e S = Q .ret e S := rfl
theorem scopeK_normal : scopeK Q .normal e S = Q .normal e S := rfl
theorem scopeK_exit : scopeK Q (.exit j) e S = Q (.exit j) e S := rfl
theorem scopeK_ret : scopeK Q .ret e S = Q .ret e S := rfl
end

/-! ### compiled -/
def opt {α β : Type} (o : Option α) (f : α → Option β) : Option β := match o with | some a => f a | none => none
def compItem (P : Program) (ops : Array Oper) (i : Nat) : Option SI :=
  match ops[i]? with
  | none => none
  | some o => match resolveOp P o.op o.type with
    | none => (match o.guard with
      | none => some ⟨i, o.dst, none, false, .bad⟩
      | some (j, w) => match (ops[j]?).bind (·.dst) with
        | some t => some ⟨i, o.dst, some (t, w), false, .bad⟩
        | none => none)
    | some r => match o.guard with
      | none => some ⟨i, o.dst, none, ops.any fun q => match q.guard with | some (j, _) => j == i | none => false, r⟩
      | some (j, w) => match (ops[j]?).bind (·.dst) with
        | some t => some ⟨i, o.dst, some (t, w), ops.any fun q => match q.guard with | some (j, _) => j == i | none => false, r⟩
        | none => none
def compItems (P : Program) (ops : Array Oper) : List Nat → Option (List SI)
  | [] => some []
  | i :: r => match compItem P ops i, compItems P ops r with
    | some it, some l => some (it :: l)
    | _, _ => none
def clsOf (ops : Nat) (l : List SI) : List Nat := (List.range ops).map fun i => match l.find? (fun it => it.i == i) with | some it => clsR it.r | none => 3
/-- Who has to stand ahead of whom. -/
def addN (l : List Nat) (x : Nat) : List Nat :=
  match l with
  | [] => [x]
  | y :: r => if x == y then y :: r else if x < y then x :: y :: r else y :: addN r x
def ancsGo : List Oper → List (List Nat) → List (List Nat)
  | [], M => M
  | o :: r, M => ancsGo r (M ++ [((predsOf o).flatMap fun q => q :: M.getD q []).foldl addN []])
def ancs (ops : Array Oper) : List (List Nat) := ancsGo ops.toList []
/-- Nothing that writes may stand ahead of what was read before it. -/
def calm (M : List (List Nat)) (l : List SI) : Bool := l.all fun it => clsR it.r != 3 || l.all fun j => clsR j.r != 1 || !unOf M j.i it.i
def permOf (o : Option (List Nat)) (n : Nat) : List Nat := match o with | some p => p | none => List.range n
def comp (P : Program) (D : Nat → Option (List Nat)) : Code → Option SC
  | .skip => some .skip
  | .ret => some .ret
  | .label _ => some .skip
  | .region _ ops false => match compItems P ops (List.range ops.size) with | some l => some (.reg l none) | none => none
  | .region id ops true => match compItems P ops (permOf (D id) ops.size) with
    | some l => if drawOk ops (ancs ops) (clsOf ops.size l) (permOf (D id) ops.size) = true then some (.reg l (if calm (ancs ops) l = true then none else some (ancs ops))) else some .bad
    | none => none
  | .seq a b => match comp P D a, comp P D b with | some x, some y => some (.seq x y) | _, _ => none
  | .cond c a b => match comp P D a, comp P D b with | some x, some y => some (.cond c x y) | _, _ => none
  | .block id c => match comp P D c with | some x => some (.block id x) | none => none
  | .loop c => match comp P D c with | some x => some (.loop x) | none => none
  | .exit id => some (.exit id)
  | .scope c => match comp P D c with | some x => some (.scope x) | none => none
  | .rangeFunc f ps a b => match comp P D a, comp P D b with | some x, some y => if flat x = true ∧ flat y = true then some (.range f ps.toList x y) else some .bad | _, _ => none
  | _ => some .bad

/-! ### sound -/
structure Rel (N : Nat) (e : Env) (a : Act) : Prop where
  size : a.tmps.size = N
  get : ∀ t, a.tmps.getD t undef = e t
section
variable {P : Program} {N : Nat} {e : Env} {a : Act} {S : Hp}
theorem Rel.eval (h : Rel N e a) : a.eval = ev e := by
  funext x
  cases x <;> simp only [Act.eval, ev]
  exact h.get _
theorem Rel.put (h : Rel N e a) {d : Nat} (hd : d < N) (v : Value) : Rel N (upd e d v) (a.put (some d) v) := by
  refine ⟨by simp [Act.put, h.size], fun t => ?_⟩
  unfold upd
  simp only [Act.put]
  rw [Array.getD_eq_getD_getElem?, Array.getElem?_setIfInBounds]
  by_cases ht : t = d
  · subst ht
    rw [if_pos rfl, if_pos rfl, if_pos (by rw [h.size]; exact hd)]
    rfl
  · rw [if_neg (fun e => ht e.symm), if_neg ht, ← h.get t, Array.getD_eq_getD_getElem?]
theorem putC_put (h : Rel N e a) {dst : Option Nat} {v : Value} {K : Env → Prop} (hp : putC N dst v e K) : ∃ e', Rel N e' (a.put dst v) ∧ K e' := by
  unfold putC at hp
  cases dst with
  | none => exact ⟨e, h, hp⟩
  | some d => exact ⟨_, h.put hp.1 v, hp.2⟩
def ItemOk (P : Program) (ops : Array Oper) (it : SI) : Prop := ∃ o, ops[it.i]? = some o ∧ it.dst = o.dst ∧ Sound P o it.r ∧ (it.guard = none ∧ o.guard = none ∨ ∃ j w t, o.guard = some (j, w) ∧ (ops[j]?).bind (·.dst) = some t ∧ it.guard = some (t, w))
theorem compItem_ok {ops : Array Oper} {i : Nat} {it : SI} (h : compItem P ops i = some it) : it.i = i ∧ ItemOk P ops it := by
  unfold compItem at h
  split at h
  · cases h
  · rename_i o ho
    split at h
    · split at h
      · rename_i hg
        cases h
        exact ⟨rfl, o, ho, rfl, fun ρ _ K hk => hk.elim, .inl ⟨rfl, hg⟩⟩
      · rename_i j w hg
        split at h
        · rename_i t ht
          cases h
          exact ⟨rfl, o, ho, rfl, fun ρ _ K hk => hk.elim, .inr ⟨j, w, t, hg, ht, rfl⟩⟩
        · cases h
    · rename_i r hr
      split at h
      · rename_i hg
        cases h
        exact ⟨rfl, o, ho, rfl, resolve_sound hr, .inl ⟨rfl, hg⟩⟩
      · rename_i j w hg
        split at h
        · rename_i t ht
          cases h
          exact ⟨rfl, o, ho, rfl, resolve_sound hr, .inr ⟨j, w, t, hg, ht, rfl⟩⟩
        · cases h
theorem compItems_ok {ops : Array Oper} : ∀ {l : List Nat} {its : List SI}, compItems P ops l = some its → its.map (·.i) = l ∧ ∀ it, it ∈ its → ItemOk P ops it := by
  intro l
  induction l with
  | nil => intro its h; cases h; exact ⟨rfl, fun it hit => by cases hit⟩
  | cons i l ih =>
    intro its h
    unfold compItems at h
    split at h
    · rename_i it r h1 h2
      cases h
      obtain ⟨e1, o1⟩ := compItem_ok h1
      obtain ⟨e2, o2⟩ := ih h2
      refine ⟨by simp [e1, e2], fun q hq => ?_⟩
      rcases List.mem_cons.1 hq with rfl | hq
      · exact o1
      · exact o2 q hq
    · cases h
theorem gdC_spec {ops : Array Oper} {it : SI} {o : Oper} {A B : Prop} (h : Rel N e a) (hg : it.guard = none ∧ o.guard = none ∨ ∃ j w t, o.guard = some (j, w) ∧ (ops[j]?).bind (·.dst) = some t ∧ it.guard = some (t, w)) (hx : gdC it.guard e A B) :
    (Region.wanted o (yielded ops a.tmps) = true ∧ A) ∨ (Region.wanted o (yielded ops a.tmps) = false ∧ B) := by
  unfold Region.wanted
  rcases hg with ⟨h1, h2⟩ | ⟨j, w, t, h1, h2, h3⟩
  · rw [h1] at hx; rw [h2]; exact .inl ⟨rfl, hx⟩
  · rw [h3] at hx; rw [h1]
    simp only [gdC] at hx
    have hy : (yielded ops a.tmps j == some w) = gB (e t) w := by
      have hg := h.get t
      rw [Array.getD_eq_getD_getElem?] at hg
      unfold yielded
      rw [h2]
      simp only [Option.bind_some]
      rw [← hg]
      cases hq : a.tmps[t]? with
      | none => rfl
      | some v => cases v <;> simp [gB]
    simp only [hy]
    cases hb : gB (e t) w
    · exact .inr ⟨rfl, hx.2 hb⟩
    · exact .inl ⟨rfl, hx.1 hb⟩
theorem ev_FnOk : FnOk (ev e) := fun _ => rfl

/-! a region, carried out as its text stands -/
theorem stepC_op {M : Option (List (List Nat))} {it : SI} {o : Oper} {G : GL} {K : Value → Hp → GL → Prop} (h : Rel N e a) (hs : Sound P o it.r) (hx : stepC P M it e S G K) : opWp P o a S fun v S' => ∃ G', K v S' G' := by
  unfold stepC at hx
  unfold opWp
  rw [h.eval]
  have hs := hs (ev e) ev_FnOk
  split at hx
  · rename_i hc
    rw [hc] at hs
    obtain ⟨v, hv, hk⟩ := hs _ hx
    exact readv_wp _ (readv_le _ (Hp.none_le S) hv) ⟨G, IT.1 hk⟩
  · rename_i hc
    rw [hc] at hs
    obtain ⟨v, H, hv, hk, _⟩ := hs _ _ hx
    exact readv_wp _ hv ⟨_, IT.1 hk⟩
  · rename_i hc
    rw [hc] at hs
    obtain ⟨_, hk⟩ := hs _ _ hx
    refine wpH_mono _ ?_ hk
    rintro nx S' ⟨v, rfl, hk⟩
    exact ⟨G, hk⟩
  · rename_i h0 h1 h2
    split at hs
    · rename_i hc; exact absurd hc h0
    · rename_i hc; exact absurd hc h1
    · rename_i hc; exact absurd hc h2
    · exact wpH_mono _ (fun nx S' hp => opPost_mono (fun v S2 hk => ⟨G, IT.1 hk.2⟩) hp) (hs _ _ hx)
theorem regC_ops {ops : Array Oper} {M : Option (List (List Nat))} {Q : Env → Hp → Prop} : ∀ {l : List SI} {e : Env} {a : Act} {S : Hp} {G : GL}, (∀ it, it ∈ l → ItemOk P ops it) → Rel N e a → regC P N M Q l e S G → opsWp P ops (fun a S => ∃ e, Rel N e a ∧ Q e S) (l.map (·.i)) a S := by
  intro l
  induction l with
  | nil => intro e a S G _ h hx; exact ⟨e, h, hx⟩
  | cons it l ih =>
    intro e a S G hok h hx
    obtain ⟨o, ho, hd, hs, hg⟩ := hok it List.mem_cons_self
    have hok' := fun q hq => hok q (List.mem_cons_of_mem _ hq)
    simp only [regC] at hx
    simp only [List.map_cons, opsWp, ho]
    rcases gdC_spec h hg hx with ⟨hw, hx⟩ | ⟨hw, hx⟩
    · rw [if_pos hw]
      refine opWp_mono (stepC_op h hs hx) ?_
      rintro v S' ⟨G', hk⟩
      rw [hd] at hk
      obtain ⟨e', h', hk⟩ := putC_put h hk
      exact ih hok' h' hk
    · rw [if_neg (by rw [hw]; simp)]
      rw [hd] at hx
      obtain ⟨e', h', hk⟩ := putC_put h hx
      exact ih hok' h' hk

/-! a region whose order is drawn -/
inductive GOk (P : Program) : GL → Held → Prop where
  | nil : GOk P [] []
  | cons {g : Nat × (Hp → Prop)} {g2 : Nat × Sem Next × Value} {G : GL} {G2 : Held} (h1 : g2.1 = g.1 ∧ ∀ S', g.2 S' → readv P S' g2.2.1 = some (.value g2.2.2)) (h2 : GOk P G G2) : GOk P (g :: G) (g2 :: G2)
theorem holdC_spec {M : List (List Nat)} {i : Nat} {S : Hp} : ∀ {G : GL} {G2 : Held}, GOk P G G2 → holdC (some M) i S G → Holds P (unOf M) i S G2 := by
  intro G
  induction G with
  | nil => intro G2 h _; cases h; intro g hg; cases hg
  | cons g G ih =>
    intro G2 h hx
    cases h with
    | cons h1 h2 =>
      obtain ⟨j, H⟩ := g
      simp only [holdC] at hx
      intro q hq hu
      rcases List.mem_cons.1 hq with rfl | hq
      · rw [h1.1] at hu; exact h1.2 _ (hx.1 hu)
      · exact ih h2 hx.2 q hq hu
theorem stepC_T {M : List (List Nat)} {it : SI} {o : Oper} {G : GL} {G2 : Held} {K : Value → Hp → GL → Prop} (h : Rel N e a) (hs : Sound P o it.r) (hG : GOk P G G2) (hx : stepC P (some M) it e S G K) :
    T P (unOf M) (clsR it.r) it.i (execOp a.eval o) S G2 fun v S' G2' => ∃ G', GOk P G' G2' ∧ K v S' G' := by
  unfold stepC at hx
  unfold T
  rw [h.eval]
  have hs := hs (ev e) ev_FnOk
  split at hx
  · rename_i hc
    rw [hc] at hs ⊢
    obtain ⟨v, hv, hk⟩ := hs _ hx
    exact ⟨v, hv, G, hG, IT.1 hk⟩
  · rename_i hc
    rw [hc] at hs ⊢
    obtain ⟨v, H, hv, hk, hH⟩ := hs _ _ hx
    exact ⟨v, hv, _, GOk.cons ⟨rfl, hH⟩ hG, IT.1 hk⟩
  · rename_i hc
    rw [hc] at hs ⊢
    obtain ⟨ha, hk⟩ := hs _ _ hx
    refine ⟨ha, wpH_mono _ ?_ hk⟩
    rintro nx S' ⟨v, rfl, hk⟩
    exact ⟨v, rfl, G, hG, hk⟩
  · rename_i h0 h1 h2
    split at hs
    · rename_i hc; exact absurd hc h0
    · rename_i hc; exact absurd hc h1
    · rename_i hc; exact absurd hc h2
    · split
      · rename_i hc; exact absurd hc h0
      · rename_i hc; exact absurd hc h1
      · rename_i hc; exact absurd hc h2
      · exact wpH_mono _ (fun nx S' hp => opPost_mono (fun v S2 hk => ⟨holdC_spec hG hk.1, G, hG, IT.1 hk.2⟩) hp) (hs _ _ hx)
theorem regC_draw {ops : Array Oper} {M : List (List Nat)} {cl : Nat → Nat} {Q : Env → Hp → Prop} : ∀ {l : List SI} {e : Env} {a : Act} {S : Hp} {G : GL} {G2 : Held}, (∀ it, it ∈ l → ItemOk P ops it) → (∀ it, it ∈ l → cl it.i = clsR it.r) → Rel N e a → Real S → GOk P G G2 → regC P N (some M) Q l e S G →
    regWp P ops (unOf M) cl (fun a S => ∃ e, Rel N e a ∧ Q e S) (l.map (·.i)) a S G2 := by
  intro l
  induction l with
  | nil => intro e a S G G2 _ _ h _ _ hx; exact ⟨e, h, hx⟩
  | cons it l ih =>
    intro e a S G G2 hok hcl h hR hG hx
    obtain ⟨o, ho, hd, hs, hg⟩ := hok it List.mem_cons_self
    have hok' := fun q hq => hok q (List.mem_cons_of_mem _ hq)
    have hcl' := fun q hq => hcl q (List.mem_cons_of_mem _ hq)
    simp only [regC] at hx
    simp only [List.map_cons, regWp, stepG, ho]
    rcases gdC_spec h hg hx with ⟨hw, hx⟩ | ⟨hw, hx⟩
    · have e1 : clsAt ops cl it.i o a = clsR it.r := by unfold clsAt; rw [if_pos hw, hcl it List.mem_cons_self]
      have e2 : semAt ops o a = execOp a.eval o := if_pos hw
      rw [e1, e2]
      refine T_mono hR ?_ (stepC_T h hs hG hx)
      rintro v S' G2' hR' ⟨G', hG', hk⟩
      rw [hd] at hk
      obtain ⟨e', h', hk⟩ := putC_put h hk
      exact ih hok' hcl' h' hR' hG' hk
    · have e1 : clsAt ops cl it.i o a = 0 := by unfold clsAt; rw [hw]; rfl
      have e2 : semAt ops o a = .pure (.value undef) := by unfold semAt; rw [hw]; rfl
      rw [e1, e2]
      rw [hd] at hx
      obtain ⟨e', h', hk⟩ := putC_put h hx
      exact ⟨undef, rfl, ih hok' hcl' h' hR hG hk⟩

theorem calm_reg {M : List (List Nat)} {l0 : List SI} (hc : calm M l0 = true) {Q : Env → Hp → Prop} : ∀ {l : List SI} {e : Env} {S : Hp} {G G' : GL}, (∀ it, it ∈ l → it ∈ l0) → (∀ g, g ∈ G → ∃ j, j ∈ l0 ∧ clsR j.r = 1 ∧ g.1 = j.i) → regC P N (some M) Q l e S G = regC P N none Q l e S G' := by
  intro l
  induction l with
  | nil => intros; rfl
  | cons it l ih =>
    intro e S G G' hl hG
    have hl' := fun q hq => hl q (List.mem_cons_of_mem _ hq)
    have h0 : ∀ v S, (putC N it.dst v e fun e' => regC P N (some M) Q l e' S G) = (putC N it.dst v e fun e' => regC P N none Q l e' S G') := by
      intro v S; congr 1; funext e'; exact ih hl' hG
    simp only [regC, stepC]
    congr 1
    · split
      · congr 1; funext v; congr 1; funext v; exact h0 _ _
      · rename_i hcl
        congr 1; funext v H; congr 1; funext v; congr 1; funext e'
        refine ih hl' ?_
        intro g hg
        rcases List.mem_cons.1 hg with rfl | hg
        · exact ⟨it, hl it List.mem_cons_self, hcl, rfl⟩
        · exact hG g hg
      · congr 1; funext v S'; exact h0 _ _
      · rename_i n0 n1 n2
        have h3 : clsR it.r = 3 := by
          have : clsR it.r ≤ 3 := by cases it.r <;> simp [clsR]
          have : clsR it.r ≠ 0 := n0
          have : clsR it.r ≠ 1 := n1
          have : clsR it.r ≠ 2 := n2
          omega
        have hh : ∀ S' G, (∀ g, g ∈ G → ∃ j, j ∈ l0 ∧ clsR j.r = 1 ∧ g.1 = j.i) → holdC (some M) it.i S' G = True := by
          intro S' G
          induction G with
          | nil => intro _; rfl
          | cons g G ihG =>
            intro hG
            obtain ⟨j, H⟩ := g
            obtain ⟨q, hq, hq1, e1⟩ := hG (j, H) List.mem_cons_self
            simp only [holdC]
            rw [ihG fun g hg => hG g (List.mem_cons_of_mem _ hg)]
            unfold calm at hc
            rw [List.all_eq_true] at hc
            have := hc it (hl it List.mem_cons_self)
            rw [h3] at this
            simp only [bne_self_eq_false, Bool.false_or, List.all_eq_true] at this
            have := this q hq
            rw [hq1] at this
            simp only [bne_self_eq_false, Bool.false_or] at this
            dsimp only at e1
            subst e1
            simp at this
            simp [this]
        congr 1; funext v S'
        rw [hh S' G hG]
        congr 1
        · cases G' <;> rfl
        · congr 1; funext v; exact h0 _ _
    · exact h0 _ _
def lift (N : Nat) (Q : Exit → Env → Hp → Prop) : Exit → Act → Hp → Prop := fun x a S => ∃ e, Rel N e a ∧ Q x e S
theorem clsOf_get {n : Nat} {l : List SI} {it : SI} (hn : (l.map (·.i)).Nodup) (hi : it ∈ l) (hlt : it.i < n) : (clsOf n l).getD it.i 3 = clsR it.r := by
  unfold clsOf
  have : l.find? (fun q => q.i == it.i) = some it := by
    clear hlt
    induction l with
    | nil => cases hi
    | cons q l ih =>
      simp only [List.map_cons, List.nodup_cons] at hn
      rcases List.mem_cons.1 hi with rfl | hi
      · simp
      · have hne : q.i ≠ it.i := fun e => hn.1 (by rw [e]; exact List.mem_map.2 ⟨it, hi, rfl⟩)
        rw [List.find?_cons]
        simp only [beq_eq_false_iff_ne.2 hne]
        exact ih hn.2 hi
  simp [List.getD_eq_getElem?_getD, hlt, this]
theorem rel_upds : ∀ (l : List (Nat × Value)) {e : Env} {a : Act}, Rel N e a → (∀ p, p ∈ l → p.1 < N) → Rel N (updL e l) { a with tmps := l.foldl (fun t p => t.setIfInBounds p.1 p.2) a.tmps } := by
  intro l
  induction l with
  | nil => intro e a h _; exact h
  | cons p l ih =>
    intro e a h hp
    exact ih (h.put (hp p List.mem_cons_self) p.2) (fun q hq => hp q (List.mem_cons_of_mem _ hq))
theorem DefOk.put_loop {B L : Nat} {ds : List Deferred} {S : Hp} {w : World} {r : Loop} (h : DefOk B ds S w) (hl : w.heap[L]? = some (.loop r)) (o : Obj) : DefOk B ds S (w.putObj L o) := by
  obtain ⟨hB, Ds, e, hn, hD⟩ := h
  refine ⟨by simpa using hB, Ds, e, hn, fun D hm => ?_⟩
  obtain ⟨h1, h2, h3⟩ := hD D hm
  refine ⟨h1, h2, ?_⟩
  have hne : D ≠ L := fun e => by subst e; rw [h3] at hl; cases hl
  rw [World.putObj_heap_other hne]
  exact h3
theorem step_put {S : Hp} {w : World} {L : Nat} {o o' : Obj} (hi : (S.set L o).In w) : Step (S.set L o) w (S.set L o') (w.putObj L o') := by
  have := Step.modify (w' := w.putObj L o') (o' := o') hi (set_same o) rfl rfl rfl rfl
  have e : (S.set L o).set L o' = S.set L o' := by funext m; unfold Hp.set; split <;> rfl
  rw [e] at this
  exact this
def jumpIs (x : Exit) (c : Code) : Prop := (x = .ret ∧ c = .ret) ∨ ∃ j, x = .exit j ∧ c = .exit j
theorem callFunc_run {f : FuncId} {fn : Func} {args : Array Value} {w : World} (hf : P.funcs[f]? = some fn) (hb : fn.body.isSome = true) (hn : (fn.name == "runtime.NumGoroutine") = false) : (callFunc f args).run P w = .ok (.enter f args) w := by
  unfold callFunc program
  show Sem.run P (match P.funcs[f]? with | none => _ | some fn => _) w = _
  rw [hf]
  simp only [hn]
  have : fn.body.isNone = false := by cases hbb : fn.body <;> simp [hbb] at hb ⊢
  rw [this]
  rfl
theorem codeWp_range {B : Nat} {f : Operand} {ps : Array Tmp} {ca cb : Code} {x y : SC} {Q : Exit → Env → Hp → Prop}
    (iha : ∀ {r : Option Nat} {B : Nat} {e : Env} {a : Act} {S : Hp} {Q : Exit → Env → Hp → Prop}, (r = none ∨ flat x = true) → Rel N e a → sC P N x e S Q → codeWp r B P ca (lift N Q) a S)
    (ihb : ∀ {r : Option Nat} {B : Nat} {e : Env} {a : Act} {S : Hp} {Q : Exit → Env → Hp → Prop}, (r = none ∨ flat y = true) → Rel N e a → sC P N y e S Q → codeWp r B P cb (lift N Q) a S)
    (hfx : flat x = true) (hfy : flat y = true) (h : Rel N e a) (hx : sC P N (.range f ps.toList x y) e S Q) : codeWp none B P (.rangeFunc f ps ca cb) (lift N Q) a S := by
  intro w hi hd
  simp only [sC] at hx
  obtain ⟨A, Done, R, St, I, J, T0, ⟨gf, first, cap, hg⟩, hit, ⟨hSle, hSset⟩, hRm, hAl, hps, hSt, h0, hIR, hround, hdone, hret, hexit⟩ := hx
  have hev : a.eval f = .func (.func gf) first cap := by rw [h.eval]; exact hg
  refine wpIn_rangeFunc ?_
  intro fn hfn
  obtain ⟨rec0, hrec⟩ : ∃ rec0 : Loop, rec0 = { state := .ready, pending := none, fn, tmps := a.tmps, params := ps, assign := ca, body := cb, defers := w.heap.size } := ⟨_, rfl⟩
  obtain ⟨L, hL⟩ : ∃ L, L = w.heap.size + 1 := ⟨_, rfl⟩
  obtain ⟨W1, hW1⟩ : ∃ W1, (w.alloc (.deferred (some []))).alloc (.loop rec0) = W1 := ⟨_, rfl⟩
  have hSD : S w.heap.size = none := In_fresh hi (Nat.le_refl _)
  have hSL : S L = none := In_fresh hi (by omega)
  have hTL : T0 L = none := by
    cases h2 : T0 L with
    | none => rfl
    | some o => rw [hSle _ _ hSt _ _ h2] at hSL; cases hSL
  have s1 : Step S w (S.set w.heap.size (.deferred (some []))) (w.alloc (.deferred (some []))) := Step.new hi _ rfl rfl rfl rfl
  have s2 : Step (S.set w.heap.size (.deferred (some []))) (w.alloc (.deferred (some []))) ((S.set w.heap.size (.deferred (some []))).set L (.loop rec0)) W1 := by
    have := Step.new (w' := W1) s1.inn (.loop rec0) (by rw [← hW1]; rfl) (by rw [← hW1]; rfl) (by rw [← hW1]; rfl) (by rw [← hW1]; rfl)
    rw [World.size_alloc, ← hL] at this
    exact this
  have s3 : Step S w (S.set L (.loop rec0)) W1 := by
    refine (s1.trans s2).drop ?_
    intro n o hn
    unfold Hp.set at hn ⊢
    split at hn
    · rename_i e; rw [if_pos e]; exact hn
    · rename_i e
      rw [if_neg e]
      by_cases e2 : n = w.heap.size
      · subst e2; rw [hSD] at hn; cases hn
      · rw [if_neg e2]; exact hn
  have hd1 : DefOk B (markD w.heap.size :: a.defers) (S.set L (.loop rec0)) W1 := by
    obtain ⟨hB, Ds, e, hn, hD⟩ := hd
    have hlt : ∀ D, D ∈ Ds → D < w.heap.size := fun D hm => (Array.getElem?_eq_some_iff.1 (hD D hm).2.2).1
    refine ⟨Nat.le_trans hB s3.size, w.heap.size :: Ds, by simp [e], List.nodup_cons.2 ⟨fun hm => Nat.lt_irrefl _ (hlt _ hm), hn⟩, fun D hm => ?_⟩
    rcases List.mem_cons.1 hm with rfl | hm
    · refine ⟨hB, by rw [set_ne (by omega)]; exact hSD, ?_⟩
      rw [← hW1]
      have e1 := World.alloc_heap_new w (.deferred (some []))
      show ((w.alloc (.deferred (some []))).heap.push _)[w.heap.size]? = _
      rw [Array.getElem?_push, if_neg (by rw [World.size_alloc]; omega)]
      exact e1
    · obtain ⟨h1, h2, h3⟩ := hD D hm
      have := hlt D hm
      refine ⟨h1, by rw [set_ne (by omega)]; exact h2, ?_⟩
      exact (s3.frame D this h2).1.trans h3
  have hgen := hit (.func (.yield L) #[] #[]) (fun k S' => ∃ T, S' = T.set L (.loop rec0) ∧ T L = none ∧ I k T)
    (fun S' => ∃ T x c, S' = T.set L (.loop { rec0 with state := .done, pending := some c }) ∧ T L = none ∧ J x T ∧ jumpIs x c) (.inr ⟨_, rfl⟩)
    (by rintro k S' ⟨T, rfl, hT, hI⟩; exact hRm T _ (Hp.le_set hT) (hIR k T hI)) ?_ (T0.set L (.loop rec0)) (S.set L (.loop rec0)) (hSset _ _ _ _ hSt hSL) ⟨T0, rfl, hTL, h0⟩
  · rw [hg] at hgen
    obtain ⟨⟨fn0, hf0, hb0, hn0⟩, hcw⟩ := hgen
    refine ⟨L, [markD w.heap.size], W1, { target := .fn (.func gf) cap, args := first ++ #[.func (.yield L) #[] #[]] }, W1, gf, (first.toList ++ [Value.func (.yield L) #[] #[]] ++ cap.toList).toArray, W1, ?_, ?_, fun _ _ => fc_fn, ?_, fc_depth, callsIn_fc ((hcw W1 s3.inn).mono ?_)⟩
    · rw [← hW1, hrec, hL]; exact run_enterLoop_outer _ _ _ _ _
    · simp only [resolve, List.map_toArray, List.map_cons, List.map_nil]
      rw [hev]
      rfl
    · show (callFunc gf ((first ++ #[.func (.yield L) #[] #[]]) ++ cap)).run P W1 = _
      have e : (first ++ #[Value.func (.yield L) #[] #[]]) ++ cap = (first.toList ++ [Value.func (.yield L) #[] #[]] ++ cap.toList).toArray := Array.ext' (by simp)
      rw [e]
      exact callFunc_run hf0 hb0 hn0
    · rintro e2 w2 ⟨v, S2, rfl, ⟨S3, hle3, hpost⟩, hs0⟩
      have hs := hs0.drop hle3
      simp only [rangePost]
      have hrel : Rel N e { a with defers := [markD w.heap.size] ++ a.defers } := ⟨h.size, h.get⟩
      have hd2 := hd1.step hs
      rcases hpost with ⟨k, hk, T, rfl, hT, hI⟩ | ⟨T, x, c, rfl, hT, hJ, hj⟩
      · have hb := hs.inn L _ (set_same _)
        refine ⟨none, _, (by rw [run_endLoop hb (by rw [hrec]; simp), hrec]), ⟨T, ⟨e, hrel, hdone k T hk hI⟩, ?_, ?_⟩⟩
        · exact ((s3.trans hs).trans (step_put hs.inn)).drop (Hp.le_set hT)
        · exact (hd2.put_loop hb _).of_le (Hp.le_set hT)
      · have hb := hs.inn L _ (set_same _)
        have hfin : ∀ o, Step S w T (w2.putObj L o) ∧ DefOk B ([markD w.heap.size] ++ a.defers) T (w2.putObj L o) := fun o => ⟨((s3.trans hs).trans (step_put hs.inn)).drop (Hp.le_set hT), (hd2.put_loop hb _).of_le (Hp.le_set hT)⟩
        refine ⟨some c, _, run_endLoop hb (by simp), ?_⟩
        rcases hj with ⟨rfl, rfl⟩ | ⟨j, rfl, rfl⟩
        · exact wpIn_ret ⟨T, ⟨e, hrel, hret T hJ⟩, hfin _⟩
        · exact wpIn_exit ⟨T, ⟨e, hrel, hexit j T hJ⟩, hfin _⟩
  · rintro k args S' hA ⟨T, rfl, hT, hI⟩
    refine ⟨rfl, rfl, rec0, set_same _, ?_, ?_⟩
    · rw [hAl k args hA, hrec]; simp
    intro w1 hi1
    obtain ⟨hi1', hb1⟩ := in_beside hT hi1
    have htm : ((rec0.params.zip args.toArray).foldl (fun tmps (x : Tmp × Value) => tmps.setIfInBounds x.1 x.2) rec0.tmps) = (ps.toList.zip args).foldl (fun t p => t.setIfInBounds p.1 p.2) a.tmps := by
      rw [hrec]
      rw [← Array.foldl_toList, Array.toList_zip]
    have hasg : rec0.assign = ca := by rw [hrec]
    have hbod : rec0.body = cb := by rw [hrec]
    have hfn0 : rec0.fn = fn := by rw [hrec]
    have hst : rec0.state = .ready := by rw [hrec]
    have hpe : rec0.pending = none := by rw [hrec]
    show RoundIn Fence.wide 0 P L rec0.fn ((rec0.params.zip args.toArray).foldl (fun tmps (x : Tmp × Value) => tmps.setIfInBounds x.1 x.2) rec0.tmps) rec0.assign rec0.body w1 _
    rw [show RoundIn Fence.wide 0 P L rec0.fn ((rec0.params.zip args.toArray).foldl (fun tmps (x : Tmp × Value) => tmps.setIfInBounds x.1 x.2) rec0.tmps) rec0.assign rec0.body w1 = RoundIn Fence.wide 0 P L rec0.fn ((ps.toList.zip args).foldl (fun t p => t.setIfInBounds p.1 p.2) a.tmps) ca cb w1 by rw [htm, hasg, hbod]]
    refine roundIn_of_wpIn trivial ?_
    have hrel : Rel N (updL e (ps.toList.zip args)) { tmps := (ps.toList.zip args).foldl (fun t p => t.setIfInBounds p.1 p.2) a.tmps, defers := [] } := by
      have := rel_upds (ps.toList.zip args) h (fun p hp => hps p.1 (List.of_mem_zip hp).1)
      exact ⟨this.size, this.get⟩
    have ha := iha (r := some L) (B := 0) (.inr hfx) hrel (hround k args T hA hI)
    refine wpIn_mono (F := FC (some L)) (ha w1 hi1' (DefOk.nil (Nat.zero_le _))) ?_
    rintro ex a1 w2 ⟨S2, ⟨e1, he1, hq⟩, hs2, hd2⟩
    cases ex <;> simp only [rndK] at hq
    simp only [Exit.then]
    obtain ⟨n2, s2'⟩ := step_beside hT hb1 hs2
    have hb2 : w2.heap[L]? = some (.loop rec0) := s2'.inn L _ (set_same _)
    refine ⟨_, run_beginRound hb2 hst, ?_⟩
    have hs3 := step_put (o' := .loop { rec0 with state := .busy }) s2'.inn
    obtain ⟨hi3, hb3⟩ := in_beside n2 hs3.inn
    have hbd := ihb (r := some L) (B := 0) (.inr hfy) he1 hq
    refine wpIn_mono (F := FC (some L)) (hbd _ hi3 (hd2.put_loop hb2 _)) ?_
    rintro ex a4 w4 ⟨S4, ⟨e4, he4, hq4⟩, hs4, hd4⟩
    obtain ⟨n4, s4⟩ := step_beside n2 hb3 hs4
    have hb4 : w4.heap[L]? = some (.loop { rec0 with state := .busy }) := s4.inn L _ (set_same _)
    have hall : ∀ o, Step (T.set L (.loop rec0)) w1 (S4.set L o) (w4.putObj L o) := fun o => ((s2'.trans hs3).trans s4).trans (step_put s4.inn)
    cases ex <;> simp only [endK] at hq4 <;> simp only [roundPost]
    case normal =>
      refine ⟨_, _, run_endRound none hb4, _, _, rfl, .inl ⟨rfl, S4, ?_, n4, hq4⟩, hall _⟩
      congr 2
      rw [hrec]
      rfl
    case ret => exact ⟨_, _, run_endRound (some .ret) hb4, _, _, rfl, .inr ⟨rfl, S4, .ret, .ret, rfl, n4, hq4, .inl ⟨rfl, rfl⟩⟩, hall _⟩
    case exit j => exact ⟨_, _, run_endRound (some (.exit j)) hb4, _, _, rfl, .inr ⟨rfl, S4, .exit j, .exit j, rfl, n4, hq4, .inr ⟨j, rfl, rfl⟩⟩, hall _⟩
theorem comp_sound {D : Nat → Option (List Nat)} (hm : P.follows .mixedOrders = true) : ∀ (c : Code) {s : SC} {r : Option Nat} {B : Nat} {e : Env} {a : Act} {S : Hp} {Q : Exit → Env → Hp → Prop}, comp P D c = some s → (r = none ∨ flat s = true) → Rel N e a → sC P N s e S Q → codeWp r B P c (lift N Q) a S := by
  intro c
  induction c with
  | skip => intro s r B e a S Q hc _ h hx; cases hc; exact codeWp_skip ⟨e, h, hx⟩
  | ret => intro s r B e a S Q hc _ h hx; cases hc; exact codeWp_ret ⟨e, h, hx⟩
  | label l => intro s r B e a S Q hc _ h hx; cases hc; exact codeWp_label ⟨e, h, hx⟩
  | exit id => intro s r B e a S Q hc _ h hx; cases hc; exact codeWp_exit ⟨e, h, hx⟩
  | region id ops draw =>
    intro s r B e a S Q hc _ h hx
    cases draw with
    | false =>
      simp only [comp] at hc
      split at hc
      · rename_i l hl
        cases hc
        obtain ⟨e1, hok⟩ := compItems_ok hl
        have := regC_ops hok h hx
        rw [e1] at this
        exact codeWp_region this
      · cases hc
    | true =>
      simp only [comp] at hc
      split at hc
      · rename_i l hl
        split at hc
        · rename_i hd
          cases hc
          obtain ⟨e1, hok⟩ := compItems_ok hl
          obtain ⟨_, h2, h3, n1, n2, _⟩ := drawOk_fine hd
          refine codeWp_draw (ancs ops) (clsOf ops.size l) (permOf (D id) ops.size) hm hd fun hReal => ?_
          have hcl : ∀ it, it ∈ l → (fun i => (clsOf ops.size l).getD i 3) it.i = clsR it.r := by
            intro it hit
            refine clsOf_get (by rw [e1]; exact n1) hit (n2 _ ?_)
            rw [← e1]
            exact List.mem_map.2 ⟨it, hit, rfl⟩
          have hx : regC P N (some (ancs ops)) (Q .normal) l e S [] := by
            simp only [sC] at hx
            split at hx
            · rename_i hcalm
              rw [calm_reg (l0 := l) (G' := []) hcalm (fun _ h => h) (fun g hg => by cases hg)]
              exact hx
            · exact hx
          have := regC_draw (G2 := []) (cl := fun i => (clsOf ops.size l).getD i 3) hok hcl h hReal GOk.nil hx
          rw [e1] at this
          exact this
        · cases hc; exact hx.elim
      · cases hc
  | seq x y ihx ihy =>
    intro s r B e a S Q hc hf h hx
    simp only [comp] at hc
    split at hc
    · rename_i sx sy h1 h2
      cases hc
      simp only [sC] at hx
      have hf1 : r = none ∨ flat sx = true := hf.imp id fun h => by simp only [flat, Bool.and_eq_true] at h; exact h.1
      have hf2 : r = none ∨ flat sy = true := hf.imp id fun h => by simp only [flat, Bool.and_eq_true] at h; exact h.2
      refine codeWp_seq (codeWp_mono (ihx h1 hf1 h hx) ?_)
      rintro ex a' S' ⟨e', h', hk⟩
      cases ex <;> simp only [andThen] <;> simp only [seqK] at hk
      case normal => exact ihy h2 hf2 h' hk
      all_goals exact ⟨e', h', hk⟩
    · cases hc
  | cond c x y ihx ihy =>
    intro s r B e a S Q hc hf h hx
    simp only [comp] at hc
    split at hc
    · rename_i sx sy h1 h2
      cases hc
      have hf1 : r = none ∨ flat sx = true := hf.imp id fun h => by simp only [flat, Bool.and_eq_true] at h; exact h.1
      have hf2 : r = none ∨ flat sy = true := hf.imp id fun h => by simp only [flat, Bool.and_eq_true] at h; exact h.2
      simp only [sC, condC] at hx
      split at hx
      · rename_i b hb
        cases b
        · exact codeWp_cond (t := false) (by rw [h.eval]; exact hb) (by rw [if_neg (by simp)]; exact ihy h2 hf2 h (hx.2 rfl))
        · exact codeWp_cond (t := true) (by rw [h.eval]; exact hb) (by rw [if_pos rfl]; exact ihx h1 hf1 h (hx.1 rfl))
      · exact hx.elim
    · cases hc
  | block id c ih =>
    intro s r B e a S Q hc hf h hx
    simp only [comp] at hc
    split at hc
    · rename_i sx h1
      cases hc
      simp only [sC] at hx
      refine codeWp_block (codeWp_mono (ih h1 hf h hx) ?_)
      rintro ex a' S' ⟨e', h', hk⟩
      cases ex <;> simp only [inBlock] <;> simp only [blkK] at hk
      case exit j =>
        split
        · rename_i ej; rw [if_pos ej] at hk; exact ⟨e', h', hk⟩
        · rename_i ej; rw [if_neg ej] at hk; exact ⟨e', h', hk⟩
      all_goals exact ⟨e', h', hk⟩
    · cases hc
  | loop c ih =>
    intro s r B e a S Q hc hf h hx
    simp only [comp] at hc
    split at hc
    · rename_i sx h1
      cases hc
      simp only [sC] at hx
      obtain ⟨R, n, h0, hr⟩ := hx
      refine codeWp_loop (fun n a S => ∃ e, Rel N e a ∧ R n e S) n ⟨e, h, h0⟩ ?_
      rintro n a' S' ⟨e', h', hR⟩
      refine codeWp_mono (ih h1 hf h' (hr n e' S' hR)) ?_
      rintro ex a2 S2 ⟨e2, h2, hk⟩
      cases ex <;> simp only [andThen] <;> simp only [loopK] at hk
      case normal => obtain ⟨m, hlt, hR2⟩ := hk; exact ⟨m, hlt, e2, h2, hR2⟩
      all_goals exact ⟨e2, h2, hk⟩
    · cases hc
  | scope c ih =>
    intro s r B e a S Q hc hf h hx
    simp only [comp] at hc
    split at hc
    · rename_i sx h1
      cases hc
      simp only [sC] at hx
      intro w hi hd
      refine wpIn_scope_straight (wpIn_mono (ih h1 hf h hx w hi hd) ?_)
      rintro ex a' w' ⟨S', ⟨e', h', hk⟩, hs⟩
      cases ex <;> simp only [noGoto] <;> simp only [scopeK] at hk
      all_goals exact ⟨S', ⟨e', h', hk⟩, hs⟩
    · cases hc
  | rangeFunc f ps x y ihx ihy =>
    intro s r B e a S Q hc hf h hx
    simp only [comp] at hc
    split at hc
    · rename_i sx sy h1 h2
      split at hc
      · rename_i hfl
        cases hc
        rcases hf with rfl | hf
        · exact codeWp_range (fun hf h hx => ihx h1 hf h hx) (fun hf h hx => ihy h2 hf h hx) hfl.1 hfl.2 h hx
        · simp [flat] at hf
      · cases hc; exact hx.elim
    · cases hc
  | goto l => intro s r B e a S Q hc _ _ hx; cases hc; exact hx.elim
  | refuse y => intro s r B e a S Q hc _ _ hx; cases hc; exact hx.elim
end

/-! ### the results, and a call -/
def resC (rs : List RV) (e : Env) (S : Hp) (K : List Value → Prop) : Prop :=
  match rs with
  | [] => K []
  | .tmp t :: rs => resC rs e S fun vs => K (e t :: vs)
  | .cell t c :: rs => (match e t with
    | .pointer (some a) => typd c fun v => S.cell? a = some v ∧ resC rs e S fun vs => K (v :: vs)
    | _ => False)
  | .cella t cs :: rs => (match e t with
    | .pointer (some a) => loadsC S a 0 cs fun l => resC rs e S fun vs => K (.agg l.toArray :: vs)
    | _ => False)
def oneV (vs : List Value) : Value := match vs with | [v] => v | vs => .tuple vs.toArray
def compRes (P : Program) : List ResultVar → Option (List RV)
  | [] => some []
  | .tmp t :: r => match compRes P r with | some l => some (.tmp t :: l) | none => none
  | .cell t ty :: r => match aggB P ty, size? P ty, compRes P r with
    | some false, _, some l => some (.cell t (ckOf P ty) :: l)
    | some true, some n, some l => some (.cella t (cksOf P ty n) :: l)
    | _, _, _ => none
theorem readv_runs {P : Program} {α : Type} (s : Sem α) : ∀ {S : Hp} {w : World} {a : α}, readv P S s = some a → S.In w → s.run P w = .ok a w := by
  induction s with
  | pure a => intro S w b h _; simp only [readv, Option.some.injEq] at h; subst h; rfl
  | load m a k ih =>
    intro S w b h hi
    simp only [readv] at h
    cases hc : S.cell? a with
    | none => rw [hc] at h; cases h
    | some v => rw [hc] at h; simp only [Sem.run, In_cell hi hc]; exact ih v h hi
  | shape r k ih =>
    intro S w b h hi
    simp only [readv] at h
    cases hc : S r with
    | none => rw [hc] at h; cases h
    | some v => rw [hc] at h; simp only [Sem.run, In_shape hi hc]; exact ih _ h hi
  | frozen a k ih =>
    intro S w b h hi
    simp only [readv] at h
    cases hc : S a.block with
    | none => rw [hc] at h; cases h
    | some v => rw [hc] at h; simp only [Sem.run, In_frozen hi hc]; exact ih _ h hi
  | getObj r k ih =>
    intro S w b h hi
    simp only [readv] at h
    cases hc : S r with
    | none => rw [hc] at h; cases h
    | some v =>
      rw [hc] at h
      dsimp only at h
      split at h
      · rename_i hp
        simp only [Sem.run, hi _ _ hc]
        cases v <;> first | (simp [oplain] at hp; done) | exact ih _ h hi
      · cases h
  | program k ih => intro S w b h hi; exact ih _ h hi
  | mark m k ih => intro S w b h hi; exact ih h hi
  | store m a v k ih => intro S w b h; cases h
  | new o k ih => intro S w b h; cases h
  | freeze a n k ih => intro S w b h; cases h
  | setObj r o k ih => intro S w b h; cases h
  | choose q k ih => intro S w b h; cases h
  | sys c k ih => intro S w b h; cases h
  | halt x => intro S w b h; cases h
section
variable {P : Program} {N : Nat} {e : Env} {a : Act} {S : Hp}
def resSem (tmps : Array Value) (r : ResultVar) : Sem Value :=
  match r with
  | .tmp t => pure (tmps.getD t undef)
  | .cell c t => do loadVar t (← asAddr (tmps.getD c undef))
theorem results_eq (fn : Func) (tmps : Array Value) : results fn tmps = (do let vs ← fn.results.mapM (resSem tmps); pure (if h : vs.size = 1 then vs[0] else .tuple vs)) := rfl
theorem resC_readv (h : Rel N e a) : ∀ {rs : List ResultVar} {l : List RV} {K : List Value → Prop}, compRes P rs = some l → resC l e S K → ∃ vs, vs.length = rs.length ∧ K vs ∧ readv P S (rs.mapM (resSem a.tmps)) = some vs := by
  intro rs
  induction rs with
  | nil => intro l K hc hx; cases hc; exact ⟨[], rfl, hx, rfl⟩
  | cons r rs ih =>
    intro l K hc hx
    cases r with
    | tmp t =>
      simp only [compRes] at hc
      split at hc
      · rename_i l' hl
        cases hc
        simp only [resC] at hx
        obtain ⟨vs, hlen, hk, hr⟩ := ih hl hx
        refine ⟨e t :: vs, by simp [hlen], hk, ?_⟩
        rw [List.mapM_cons, readv_bind']
        simp only [resSem, readv_pure', Option.bind_some]
        rw [readv_bind', hr, h.get]
        rfl
      · cases hc
    | cell t ty =>
      have asA : ∀ ad, e t = .pointer (some ad) → readv P S (asAddr (a.tmps.getD t undef)) = some ad := by
        intro ad ha; rw [h.get, ha]; rfl
      simp only [compRes] at hc
      split at hc
      · rename_i l' hagg hl
        cases hc
        simp only [resC] at hx
        split at hx
        · rename_i ad ha
          obtain ⟨v, hcell, hx⟩ := typd_some hx
          obtain ⟨vs, hlen, hk, hr⟩ := ih hl hx
          refine ⟨v :: vs, by simp [hlen], hk, ?_⟩
          rw [List.mapM_cons]
          rw [readv_bind']
          simp only [resSem]
          rw [readv_bind', asA _ ha]
          simp only [Option.bind_some]
          have : readv P S (loadVar ty ad) = some v := by
            unfold loadVar
            rw [readv_bind', aggB_spec hagg]
            simp only [Option.bind_some, Bool.false_eq_true, if_false]
            unfold load
            simp only [readv, hcell]
          rw [this]
          simp only [Option.bind_some]
          rw [readv_bind', hr]
          rfl
        · exact hx.elim
      · rename_i n l' hagg hsz hl
        cases hc
        simp only [resC] at hx
        split at hx
        · rename_i ad ha
          obtain ⟨cv, hcl, hcells, hx⟩ := loadsC_some _ hx
          obtain ⟨vs, hlen, hk, hr⟩ := ih hl hx
          refine ⟨.agg cv.toArray :: vs, by simp [hlen], hk, ?_⟩
          rw [List.mapM_cons]
          rw [readv_bind']
          simp only [resSem]
          rw [readv_bind', asA _ ha]
          simp only [Option.bind_some]
          have : readv P S (loadVar ty ad) = some (.agg cv.toArray) := by
            unfold loadVar
            rw [readv_bind', aggB_spec hagg]
            simp only [Option.bind_some, if_true]
            rw [readv_bind', size?_spec hsz]
            simp only [Option.bind_some]
            rw [readv_bind']
            unfold loadCells
            have hn : n = cv.length := by rw [hcl, cksOf_length]
            rw [hn, readv_loadCells ad cv 0 #[] hcells]
            simp [readv_pure']
          rw [this]
          simp only [Option.bind_some]
          rw [readv_bind', hr]
          rfl
        · exact hx.elim
      · cases hc
def finQ (rs : List RV) (Q : Value → Hp → Prop) (x : Exit) (e : Env) (S : Hp) : Prop :=
  match x with
  | .normal => resC rs e S fun vs => ∃ S', S'.le S ∧ Q (oneV vs) S'
  | .ret => resC rs e S fun vs => ∃ S', S'.le S ∧ Q (oneV vs) S'
  | _ => False
def env0 (args : List Value) : Env := fun t => args.getD t undef
theorem results_readv {fn : Func} (h : Rel N e a) {l : List RV} {K : List Value → Prop} (hc : compRes P fn.results.toList = some l) (hx : resC l e S K) : ∃ vs, K vs ∧ readv P S (results fn a.tmps) = some (oneV vs) := by
  obtain ⟨vs, hlen, hk, hr⟩ := resC_readv h hc hx
  refine ⟨vs, hk, ?_⟩
  rw [results_eq, readv_bind', Array.mapM_eq_mapM_toList, map_eq_pure_bind, readv_bind', hr]
  simp only [Option.bind_some, readv_pure']
  unfold oneV
  match vs with
  | [] => rfl
  | [v] => rfl
  | v :: u :: r => simp
theorem leaves_marks {S S' : Hp} {fn : Func} {tmps : Array Value} {R : Ending → World → Prop} {w : World} : ∀ {Ds : List Nat} {w' : World}, Ds.Nodup → (∀ D, D ∈ Ds → w.heap.size ≤ D ∧ S' D = none ∧ w'.heap[D]? = some (.deferred (some []))) → Step S w S' w' →
    (∀ w'', Step S w S' w'' → ∃ v, (results fn tmps).run P w'' = .ok v w'' ∧ R (.returned v) w'') → LeavesInM Fence.wide 0 P fn tmps R (Ds.map markD) .returning w' := by
  intro Ds
  induction Ds with
  | nil => intro w' _ _ hs hf; exact hf w' hs
  | cons D Ds ih =>
    intro w' hn hD hs hf
    obtain ⟨h1, h2, h3⟩ := hD D List.mem_cons_self
    rw [List.nodup_cons] at hn
    refine ⟨by simp, .inl ⟨D, _, rfl, run_takeDeferred h3, ih hn.2 ?_ ?_ hf⟩⟩
    · intro E hE
      obtain ⟨g1, g2, g3⟩ := hD E (List.mem_cons_of_mem _ hE)
      refine ⟨g1, g2, ?_⟩
      rw [World.putObj_heap_other (k := E) (r := D) (fun e => by subst e; exact hn.1 hE)]
      exact g3
    · refine ⟨fun n o hno => ?_, by simpa using hs.size, fun n hlt hno => ?_, hs.os, hs.tape, hs.output⟩
      · have hne : n ≠ D := fun e => by subst e; rw [h2] at hno; cases hno
        rw [World.putObj_heap_other hne]
        exact hs.inn n o hno
      · rw [World.putObj_heap_other (by omega)]
        exact hs.frame n hlt hno
theorem call_of {f : FuncId} {fn : Func} {c : Code} {D : Nat → Option (List Nat)} {s : SC} {rs : List RV} {args : List Value} {Q : Value → Hp → Prop} (hm : P.follows .mixedOrders = true) (hf : P.funcs[f]? = some fn) (hb : fn.body = some c) (hc : comp P D c = some s)
    (hr : compRes P fn.results.toList = some rs) (hN : N = args.length + (fn.ntmps - args.length)) (h : sC P N s (env0 args) S (finQ rs Q)) : callWp P f args.toArray S Q := by
  intro w hi
  refine callsIn_wide.1 (callsIn_of_wp_marks (F := Fence.wide) (n := 0) hf hb trivial ?_)
  have hrel : Rel N (env0 args) { tmps := args.toArray ++ Array.replicate (fn.ntmps - args.toArray.size) undef, defers := [] } := by
    refine ⟨by simp [hN], fun t => ?_⟩
    unfold env0
    rw [Array.getD_eq_getD_getElem?, List.getD_eq_getElem?_getD]
    by_cases ht : t < args.length
    · rw [Array.getElem?_append_left (by simpa using ht)]
      simp
    · rw [Array.getElem?_append_right (by simpa using ht), List.getElem?_eq_none (by omega)]
      simp only [List.size_toArray, Option.getD_none]
      rw [Array.getElem?_replicate]
      split <;> rfl
  refine wpIn_mono (comp_sound (r := none) (B := w.heap.size) hm c hc (.inl rfl) hrel h w hi (DefOk.nil (Nat.le_refl _))) ?_
  rintro x a' w' ⟨S', ⟨e', h', hk⟩, hs, _, Ds, hde, hnd, hD⟩
  have fin : ∀ e' a' S', Rel N e' a' → Step S w S' w' → (resC rs e' S' fun vs => ∃ S'', S''.le S' ∧ Q (oneV vs) S'') → a'.defers = Ds.map markD → (∀ D, D ∈ Ds → w.heap.size ≤ D ∧ S' D = none ∧ w'.heap[D]? = some (.deferred (some []))) →
      LeavesInM Fence.wide 0 P fn a'.tmps (fun e w' => ∃ v S', e = .returned v ∧ Q v S' ∧ Step S w S' w') a'.defers .returning w' := by
    intro e' a' S' h' hs hk hde hD
    obtain ⟨vs, ⟨S'', hl, hq⟩, hr⟩ := results_readv (fn := fn) h' hr hk
    rw [hde]
    exact leaves_marks (S' := S') hnd hD hs fun w'' hs'' => ⟨_, readv_runs _ hr hs''.inn, _, S'', rfl, hq, hs''.drop hl⟩
  cases x <;> simp only [finQ] at hk
  case normal => exact fin e' a' S' h' hs hk hde hD
  case ret => exact fin e' a' S' h' hs hk hde hD
end
/-- A function, compiled. -/
def compFn (P : Program) (D : Nat → Option (List Nat)) (fn : Func) : Option (SC × List RV) :=
  match fn.body with
  | none => none
  | some c => match comp P D c, compRes P fn.results.toList with
    | some s, some rs => some (s, rs)
    | _, _ => none
theorem call_fn {P : Program} {S : Hp} {f : FuncId} {fn : Func} {D : Nat → Option (List Nat)} {s : SC} {rs : List RV} {args : List Value} {Q : Value → Hp → Prop} (N : Nat) (hm : P.follows .mixedOrders = true) (hf : P.funcs[f]? = some fn) (hc : compFn P D fn = some (s, rs))
    (hN : N = args.length + (fn.ntmps - args.length)) (h : sC P N s (env0 args) S (finQ rs Q)) : callWp P f args.toArray S Q := by
  unfold compFn at hc
  split at hc
  · cases hc
  · rename_i c hb
    split at hc
    · rename_i s' rs' h1 h2
      cases hc
      exact call_of hm hf hb h1 h2 hN h
    · cases hc
end Go.PH
