/- PH: the resolved operations are sound for the operations. -/
import Derived.Test.YtlonednppnmpeaaGreatDoorOps
set_option linter.all false
set_option linter.unusedSimpArgs false
namespace Go.PH
open Go

theorem readv_bind {P : Program} {S : Hp} {α β : Type} (s : Sem α) (f : α → Sem β) : readv P S (s.bind f) = (readv P S s).bind fun a => readv P S (f a) := by
  induction s with
  | pure a => rfl
  | load m a k ih => simp only [Sem.bind, readv]; split <;> simp_all
  | shape r k ih => simp only [Sem.bind, readv]; split <;> simp_all
  | frozen a k ih =>
    simp only [Sem.bind, readv]
    cases S a.block with
    | none => rfl
    | some o => exact ih _
  | getObj r k ih => simp only [Sem.bind, readv]; split <;> (try split) <;> simp_all
  | program k ih => simp only [Sem.bind, readv]; exact ih _
  | mark m k ih => simp only [Sem.bind, readv]; exact ih
  | _ => rfl
theorem readv_bind' {P : Program} {S : Hp} {α β : Type} (s : Sem α) (f : α → Sem β) : readv P S (s >>= f) = (readv P S s).bind fun a => readv P S (f a) := readv_bind s f
theorem readv_pure' {P : Program} {S : Hp} {α : Type} (a : α) : readv P S (pure a : Sem α) = some a := rfl
theorem wpH_bind' {P : Program} {α β : Type} (s : Sem α) (f : α → Sem β) {S : Hp} {Q : β → Hp → Prop} (h : wpH P s S (fun a S' => wpH P (f a) S' Q)) : wpH P (s >>= f) S Q := wpH_bind s f h
theorem wpH_pure' {P : Program} {α : Type} {a : α} {S : Hp} {Q : α → Hp → Prop} (h : Q a S) : wpH P (pure a : Sem α) S Q := h

section
variable {P : Program} {S : Hp}
theorem readv_underlying {t : TypeId} {d : TypeDesc} (h : P.underlying t = some d) : readv P S (underlying t) = some d := by
  unfold underlying program
  rw [readv_bind']
  simp only [readv, Option.bind_some, h]
  rfl
theorem readv_typeInfo {t : TypeId} {i : TypeInfo} (h : P.info? t = some i) : readv P S (typeInfo t) = some i := by
  unfold typeInfo program
  rw [readv_bind']
  simp only [readv, Option.bind_some, h]
  rfl
theorem readv_sizeOf {t : TypeId} {i : TypeInfo} (h : P.info? t = some i) : readv P S (sizeOf t) = some i.size := by
  unfold sizeOf
  rw [readv_bind', readv_typeInfo h]
  rfl
theorem readv_zeroValue {t : TypeId} {i : TypeInfo} {z : Value} (h : P.info? t = some i) (hz : i.zero = some z) : readv P S (zeroValue t) = some z := by
  unfold zeroValue
  rw [readv_bind', readv_typeInfo h]
  simp only [Option.bind_some, hz]
  rfl
end

def Snd0 (P : Program) (o : Oper) (r : RO) : Prop := ∀ (ρ : Operand → Value) (K : Value → Prop), pureR r ρ K → ∃ v, readv P Hp.none (execOp ρ o) = some (.value v) ∧ K v
def Snd1 (P : Program) (o : Oper) (r : RO) : Prop := ∀ (ρ : Operand → Value) (S : Hp) (K : Value → (Hp → Prop) → Prop), readR r ρ S K → ∃ v H, readv P S (execOp ρ o) = some (.value v) ∧ K v H ∧ ∀ S', H S' → readv P S' (execOp ρ o) = some (.value v)
def Snd2 (P : Program) (o : Oper) (r : RO) : Prop := ∀ (ρ : Operand → Value) (S : Hp) (K : Value → Hp → Prop), allocR r ρ S K → (∃ ob f, AllocIs P (execOp ρ o) ob f) ∧ wpH P (execOp ρ o) S (fun nx S' => ∃ v, nx = .value v ∧ K v S')
def Snd3 (P : Program) (o : Oper) (r : RO) : Prop := ∀ (ρ : Operand → Value) (S : Hp) (K : Value → Hp → Prop), heavyR P r ρ S K → wpH P (execOp ρ o) S (opPost P K)
def Snd (P : Program) (o : Oper) (r : RO) : Prop :=
  match clsR r with
  | 0 => Snd0 P o r
  | 1 => Snd1 P o r
  | 2 => Snd2 P o r
  | _ => Snd3 P o r

section
variable {P : Program} {o : Oper}
theorem readv_val {S : Hp} {s : Sem Value} {v : Value} (h : readv P S s = some v) : readv P S (do pure (Next.value (← s))) = some (.value v) := by
  rw [readv_bind', h]; rfl

theorem mv_sound {x : Operand} (ho : o.op = .move x ∨ o.op = .assign x) : Snd0 P o (.mv x) := by
  intro ρ K h
  refine ⟨ρ x, ?_, h⟩
  rcases ho with ho | ho <;> simp only [execOp, ho] <;> rfl
theorem pick_sound {c a b : Operand} (ho : o.op = .pick c a b) : Snd0 P o (.pick c a b) := by
  intro ρ K h
  simp only [pureR, pickC] at h
  simp only [execOp, ho]
  split at h
  · rename_i t e
    cases t
    · exact ⟨_, by rw [e]; rfl, h.2 rfl⟩
    · exact ⟨_, by rw [e]; rfl, h.1 rfl⟩
  · exact h.elim
theorem bin_run {op : BinOp} {t : TypeId} {x y : Operand} {k : IntKind} {m n : Int} {K : Value → Prop} (h : arith op k m n K) :
    ∃ v, readv P Hp.none (do eqGuard op t x y (.int k m) (.int k n); binOp op t (.int k m) (.int k n)) = some v ∧ K v := by
  rw [readv_bind']
  cases op <;> simp only [arith] at h
  case quo => obtain ⟨hn, h⟩ := h; exact ⟨_, by simp [eqGuard, binOp, Op.intDiv, readv, readv_bind', hn, readv_pure'], h⟩
  case rem => obtain ⟨hn, h⟩ := h; exact ⟨_, by simp [eqGuard, binOp, Op.intDiv, readv, readv_bind', hn, readv_pure'], h⟩
  all_goals first | exact h.elim | exact ⟨_, by simp [eqGuard, binOp, Op.intArith, Op.intBits, Op.intCmp, bitsV, readv, readv_bind', readv_pure'], h⟩
theorem bin_sound {op : BinOp} {t yt : TypeId} {x y : Operand} (ho : o.op = .binOp op t x y yt) : Snd0 P o (.bin op x y) := by
  intro ρ K h
  simp only [pureR, binC] at h
  simp only [execOp, ho]
  split at h
  · rename_i k m k' n e1 e2
    obtain ⟨rfl, h⟩ := h
    rw [e1, e2]
    obtain ⟨v, hv, hk⟩ := bin_run (P := P) (t := t) (x := x) (y := y) h
    exact ⟨v, readv_val hv, hk⟩
  · exact h.elim
theorem sh_sound {op : BinOp} {t yt : TypeId} {x y : Operand} (ho : o.op = .binOp op t x y yt) : Snd0 P o (.sh op x y) := by
  intro ρ K h
  simp only [pureR, shC] at h
  simp only [execOp, ho]
  split at h
  · rename_i k m k' n e1 e2
    obtain ⟨hn, h⟩ := h
    rw [e1, e2]
    have hn' : ¬ n < 0 := by omega
    cases op <;> first | exact h.elim | exact ⟨_, readv_val (by simp [eqGuard, binOp, Op.shift, readv, readv_bind', readv_pure', hn']), h⟩
  · exact h.elim
theorem sop_sound {op : BinOp} {t yt : TypeId} {x y : Operand} (ho : o.op = .binOp op t x y yt) : Snd0 P o (.sop op x y) := by
  intro ρ K h
  simp only [pureR, sopC] at h
  simp only [execOp, ho]
  split at h
  · rename_i a b e1 e2
    rw [e1, e2]
    cases op
    case add =>
      obtain ⟨hn, h⟩ := h
      refine ⟨_, readv_val ?_, h⟩
      have hmax : IntKind.i64.max = 9223372036854775807 := rfl
      have hn' : ¬ ((a.size : Int) + b.size > IntKind.i64.max) := by rw [hmax]; omega
      simp [eqGuard, binOp, Op.stringOp, readv, readv_bind', readv_pure', hn']
    all_goals first | exact h.elim | exact ⟨_, readv_val (by simp [eqGuard, binOp, Op.stringOp, strEq, strLt, readv, readv_bind', readv_pure']), h⟩
  · exact h.elim
theorem beq_sound {op : BinOp} {neg : Bool} {t yt : TypeId} {x y : Operand} (ho : o.op = .binOp op t x y yt) (hop : op = if neg = true then .neq else .eql) (hu : P.underlying t = some .bool) : Snd0 P o (.beq neg x y) := by
  intro ρ K h
  simp only [pureR, beqC] at h
  simp only [execOp, ho]
  have he : ∀ a b : Bool, readv P Hp.none (Op.equal t (.bool a) (.bool b)) = some (a == b) := by
    intro a b
    unfold Op.equal
    show readv P Hp.none (Op.equalIn (9999 + 1) t _ _) = _
    unfold Op.equalIn
    rw [readv_bind', readv_underlying hu]
    rfl
  split at h
  · rename_i a b e1 e2
    rw [e1, e2]
    refine ⟨_, readv_val ?_, h⟩
    cases neg <;> simp at hop <;> subst hop <;> simp [-bind_pure_comp, eqGuard, binOp, readv, readv_bind', readv_pure', he, negB]
  · exact h.elim
theorem nileq_go {op : BinOp} {neg : Bool} {t : TypeId} {x y : Operand} (hop : op = if neg = true then .neq else .eql) {X Y : Value} {r : Bool} (h1 : readv P Hp.none (Op.equal t X Y) = some r) (h2 : ∀ op, eqGuard op t x y X Y = pure ())
    (h3 : (binOp .eql t X Y) = (do pure (.bool (← Op.equal t X Y)))) (h4 : (binOp .neq t X Y) = (do pure (.bool (!(← Op.equal t X Y))))) : readv P Hp.none (do eqGuard op t x y X Y; binOp op t X Y) = some (.bool (negB neg r)) := by
  rw [readv_bind', h2, readv_pure']
  simp only [Option.bind_some]
  subst hop
  cases neg
  · show readv P Hp.none (binOp .eql t X Y) = _
    rw [h3, readv_bind', h1]; rfl
  · show readv P Hp.none (binOp .neq t X Y) = _
    rw [h4, readv_bind', h1]; rfl
theorem nileq_sound {op : BinOp} {neg : Bool} {c : CK} {t yt : TypeId} {x y : Operand} (ho : o.op = .binOp op t x y yt) (hop : op = if neg = true then .neq else .eql) (hu : (c = .ptr ∧ ∃ e, P.underlying t = some (.pointer e)) ∨ (c = .slice ∧ ∃ e, P.underlying t = some (.slice e)) ∨ (c = .map ∧ ∃ a b, P.underlying t = some (.map a b))) : Snd0 P o (.nileq c neg x y) := by
  intro ρ K h
  simp only [pureR, nileqC] at h
  simp only [execOp, ho]
  have guard : ∀ X Y : Value, (∀ cs, X ≠ .agg cs) → X ≠ .nilIface → ∀ op, eqGuard op t x y X Y = pure () := by
    intro X Y h1 h2 op
    unfold eqGuard
    cases op <;> first | rfl | (cases X <;> first | rfl | exact absurd rfl (h1 _) | exact absurd rfl h2)
  rcases hu with ⟨rfl, e, hu⟩ | ⟨rfl, e, hu⟩ | ⟨rfl, e, e', hu⟩
  all_goals
    simp only [ptreqC, sleqC, mapeqC] at h
    split at h
    all_goals first
      | exact h.elim
      | (rename_i e1 e2
         rw [e1, e2]
         refine ⟨_, readv_val (nileq_go hop ?_ (guard _ _ (by intro cs e; cases e) (by intro e; cases e)) rfl rfl), h⟩
         unfold Op.equal
         show readv P Hp.none (Op.equalIn (9999 + 1) t _ _) = _
         unfold Op.equalIn
         rw [readv_bind', readv_underlying hu]
         rfl)
theorem neg_sound {t : TypeId} {x : Operand} (ho : o.op = .unOp .neg t x) : Snd0 P o (.neg x) := by
  intro ρ K h
  simp only [pureR, negC] at h
  simp only [execOp, ho]
  split at h
  · rename_i k n e; rw [e]; exact ⟨_, readv_val (by simp [Op.unary, Op.intArith, readv, readv_pure']), h⟩
  · exact h.elim
theorem notb_sound {t : TypeId} {x : Operand} (ho : o.op = .unOp .not t x) : Snd0 P o (.notb x) := by
  intro ρ K h
  simp only [pureR, notC] at h
  simp only [execOp, ho]
  split at h
  · rename_i b e; rw [e]; exact ⟨_, readv_val (by simp [Op.unary, readv, readv_pure']), h⟩
  · exact h.elim
theorem cvt_sound {s d : TypeId} {x : Operand} {k j : IntKind} (ho : o.op = .convert s d x) (hs : P.underlying s = some (.int j)) (hd : P.underlying d = some (.int k)) : Snd0 P o (.cvt k x) := by
  intro ρ K h
  simp only [pureR, cvtC] at h
  simp only [execOp, ho]
  split at h
  · rename_i k' n e
    rw [e]
    refine ⟨_, readv_val ?_, h⟩
    unfold convert
    rw [readv_bind', readv_underlying hs]
    simp only [Option.bind_some]
    rw [readv_bind', readv_underlying hd]
    rfl
  · exact h.elim
theorem runestr_sound {s d : TypeId} {x : Operand} {j : IntKind} (ho : o.op = .convert s d x) (hs : P.underlying s = some (.int j)) (hd : P.underlying d = some .string) : Snd0 P o (.runestr x) := by
  intro ρ K h
  simp only [pureR, runeC] at h
  simp only [execOp, ho]
  split at h
  · rename_i k' n e
    rw [e]
    refine ⟨_, readv_val ?_, h⟩
    unfold convert
    rw [readv_bind', readv_underlying hs]
    simp only [Option.bind_some]
    rw [readv_bind', readv_underlying hd]
    rfl
  · exact h.elim
theorem ext_sound {x : Operand} {i : Nat} (ho : o.op = .extract x i) : Snd0 P o (.ext x i) := by
  intro ρ K h
  simp only [pureR, extC] at h
  simp only [execOp, ho]
  split at h
  · rename_i vs e
    rw [e]
    split at h
    · rename_i v hv
      exact ⟨v, readv_val (by simp only [Instr.extract, hv]; rfl), h⟩
    · exact h.elim
  · exact h.elim

theorem fld_sound {t : TypeId} {x : Operand} {f : Nat} {fs : Array Field} {fd : Field} {size : Nat} {agg : Bool} (ho : o.op = .field t x f) (hu : P.underlying t = some (.struct fs)) (hf : fs[f]? = some fd)
    (ha : readv P Hp.none (isAgg fd.type) = some agg) (hs : agg = true → readv P Hp.none (sizeOf fd.type) = some size) : Snd0 P o (.fld fd.offset size agg x) := by
  intro ρ K h
  simp only [pureR, fldC] at h
  simp only [execOp, ho]
  split at h
  · rename_i cs e
    rw [e]
    have hp : ∀ v, readv P Hp.none (part fd.type cs fd.offset) = some v → readv P Hp.none (Instr.field t (.agg cs) f) = some v := by
      intro v hv
      unfold Instr.field
      rw [readv_bind', readv_underlying hu]
      simp only [Option.bind_some, hf]
      rw [readv_bind']
      exact hv
    cases agg
    · simp only [Bool.false_eq_true, if_false] at h
      split at h
      · rename_i v hv
        refine ⟨v, readv_val (hp v ?_), h⟩
        unfold part
        rw [readv_bind', ha]
        simp only [Option.bind_some, Bool.false_eq_true, if_false, hv]
        rfl
      · exact h.elim
    · simp only [if_true] at h
      refine ⟨_, readv_val (hp _ ?_), h⟩
      unfold part
      rw [readv_bind', ha]
      simp only [Option.bind_some, if_true]
      rw [readv_bind', hs rfl]
      rfl
  · exact h.elim
theorem idx_sound {t : TypeId} {x i : Operand} (ho : o.op = .index t x i) (hu : P.underlying t = some .string) : Snd0 P o (.idx x i) := by
  intro ρ K h
  simp only [pureR, idxC] at h
  simp only [execOp, ho]
  split at h
  · rename_i s k j e1 e2
    obtain ⟨h0, h1, h⟩ := h
    rw [e1, e2]
    have hlt : j.toNat < s.size := by omega
    refine ⟨_, readv_val ?_, h⟩
    unfold Instr.index asIntOf
    rw [readv_bind']
    simp only [readv_pure', Option.bind_some]
    rw [readv_bind', readv_underlying hu]
    simp only [Option.bind_some, h0, if_true]
    have hs : s[j.toNat]? = some s[j.toNat] := by simp [hlt]
    rw [hs]
    simp [bt, hlt, readv_pure']
  · exact h.elim
theorem boundC_some {v : Option Value} {d : Nat} {K : Int → Prop} (h : boundC v d K) : ∃ n, K n ∧ ((v = none ∧ n = d) ∨ ∃ k, v = some (.int k n)) := by
  unfold boundC at h
  split at h
  · exact ⟨_, h, .inl ⟨rfl, rfl⟩⟩
  · exact ⟨_, h, .inr ⟨_, rfl⟩⟩
  · exact h.elim
theorem readv_sliceBound {k : IntKind} {n : Int} {y : Nat} {c : BoundsCode} (h0 : 0 ≤ n) (h1 : n ≤ y) : readv P Hp.none (Instr.sliceBound (.int k n) y c) = some n.toNat := by
  unfold Instr.sliceBound asIntOf
  rw [readv_bind']
  simp only [readv_pure', Option.bind_some]
  rw [if_pos ⟨h0, h1⟩]
  rfl
theorem readv_sliceBounds {isSlice : Bool} {len cap : Nat} {lo hi mx : Option Value} {l h m : Int} (hm : (mx = none ∧ m = cap) ∨ ∃ k, mx = some (.int k m)) (hh : (hi = none ∧ h = len) ∨ ∃ k, hi = some (.int k h)) (hl : (lo = none ∧ l = 0) ∨ ∃ k, lo = some (.int k l))
    (hx : hi = none → mx = none) (b1 : 0 ≤ m) (b2 : m ≤ cap) (b3 : 0 ≤ h) (b4 : hi ≠ none → h ≤ m) (b5 : 0 ≤ l) (b6 : l ≤ h) : readv P Hp.none (Instr.sliceBounds isSlice len cap lo hi mx) = some (l.toNat, h.toNat, m.toNat) := by
  have hm' : ((m.toNat : Nat) : Int) = m := Int.toNat_of_nonneg b1
  have hh' : ((h.toNat : Nat) : Int) = h := Int.toNat_of_nonneg b3
  have key : ∀ (k : IntKind) (n : Int) (y : Nat) (c : BoundsCode), 0 ≤ n → n ≤ y → readv P Hp.none (Instr.sliceBound (.int k n) y c) = some n.toNat := fun _ _ _ _ h0 h1 => readv_sliceBound h0 h1
  rcases hm with ⟨rfl, rfl⟩ | ⟨k1, rfl⟩ <;> rcases hh with ⟨rfl, rfl⟩ | ⟨k2, rfl⟩ <;> rcases hl with ⟨rfl, rfl⟩ | ⟨k3, rfl⟩
  all_goals first
    | (exfalso; have := hx rfl; cases this; done)
    | (unfold Instr.sliceBounds
       simp only [readv_bind', readv_pure', Option.bind_some]
       first
         | rfl
         | (rw [key _ _ _ _ b3 (by first | exact b4 (by simp) | (have := b4 (by simp); omega))]; rfl)
         | (rw [key _ _ _ _ b5 (by omega)]; rfl)
         | (rw [key _ _ _ _ b3 (by first | exact b4 (by simp) | (have := b4 (by simp); omega))]; simp only [Option.bind_some]; rw [key _ _ _ _ b5 (by omega)]; rfl)
         | (rw [key _ _ _ _ b1 b2]; simp only [Option.bind_some]; rw [key _ _ _ _ b3 (by have := b4 (by simp); omega)]; rfl)
         | (rw [key _ _ _ _ b1 b2]; simp only [Option.bind_some]; rw [key _ _ _ _ b3 (by have := b4 (by simp); omega)]; simp only [Option.bind_some]; rw [key _ _ _ _ b5 (by omega)]; rfl))
theorem slstr_sound {t : TypeId} {x : Operand} {lo hi : Option Operand} (ho : o.op = .slice t x lo hi none) (hu : P.underlying t = some .string) : Snd0 P o (.slstr x lo hi) := by
  intro ρ K h
  simp only [pureR, slstrC] at h
  simp only [execOp, ho]
  split at h
  · rename_i s e
    obtain ⟨hh, h, hhi⟩ := boundC_some h
    obtain ⟨ll, h, hlo⟩ := boundC_some h
    obtain ⟨b3, b4, b5, b6, h⟩ := h
    rw [e]
    refine ⟨_, readv_val ?_, h⟩
    unfold Instr.sliceAt
    rw [readv_bind', readv_underlying hu]
    simp only [Option.bind_some]
    unfold Instr.slice
    rw [readv_bind', readv_underlying hu]
    simp only [Option.bind_some, Option.map_none, Option.isSome_none, Bool.false_eq_true, if_false]
    rw [readv_bind', readv_sliceBounds (m := (s.size : Int)) (.inl ⟨rfl, rfl⟩) hhi hlo (fun _ => rfl) (by omega) (by omega) b3 (fun _ => b4) b5 b6]
    rfl
  · exact h.elim
theorem slsl_sound {t elem : TypeId} {size : Nat} {x : Operand} {lo hi mx : Option Operand} (ho : o.op = .slice t x lo hi mx) (hu : P.underlying t = some (.slice elem)) (hs : readv P Hp.none (sizeOf elem) = some size) : Snd0 P o (.slsl size x lo hi mx) := by
  intro ρ K h
  simp only [pureR, slslC] at h
  simp only [execOp, ho]
  split at h
  · rename_i a len cap e
    obtain ⟨hx, h⟩ := h
    obtain ⟨mm, h, hmx⟩ := boundC_some h
    obtain ⟨hh, h, hhi⟩ := boundC_some h
    obtain ⟨ll, h, hlo⟩ := boundC_some h
    obtain ⟨b1, b2, b3, b4, b5, b6, h⟩ := h
    rw [e]
    refine ⟨_, readv_val ?_, h⟩
    unfold Instr.sliceAt
    rw [readv_bind', readv_underlying hu]
    simp only [Option.bind_some]
    unfold Instr.slice
    rw [readv_bind', readv_underlying hu]
    simp only [Option.bind_some]
    rw [readv_bind', readv_sliceBounds hmx hhi hlo hx b1 b2 b3 (fun _ => b4) b5 b6]
    simp only [Option.bind_some]
    rw [readv_bind', hs]
    rfl
  · exact h.elim
theorem fa_sound {s : TypeId} {x : Operand} {f : Nat} {fs : Array Field} {fd : Field} {n : Nat} (ho : o.op = .fieldAddr s x f) (hu : P.underlying s = some (.struct fs)) (hf : fs[f]? = some fd) (hs : readv P Hp.none (sizeOf fd.type) = some n) (hn : n ≠ 0) : Snd0 P o (.fa fd.offset x) := by
  intro ρ K h
  simp only [pureR, faC] at h
  simp only [execOp, ho]
  split at h
  · rename_i a e
    rw [e]
    refine ⟨_, readv_val ?_, h⟩
    unfold Instr.fieldAt
    rw [readv_bind', readv_underlying hu]
    simp only [Option.bind_some, hf, Instr.sureAddr]
    rw [readv_bind', readv_pure']
    simp only [Option.bind_some]
    unfold fieldPlace
    rw [readv_bind', readv_bind', hs]
    simp only [Option.bind_some]
    rw [if_neg hn]
    rfl
  · exact h.elim
theorem ia_sound {t elem : TypeId} {x i : Operand} {size : Nat} (ho : o.op = .indexAddr t x i) (hu : P.underlying t = some (.slice elem)) (hs : readv P Hp.none (sizeOf elem) = some size) : Snd0 P o (.ia size x i) := by
  intro ρ K h
  simp only [pureR, iaC] at h
  simp only [execOp, ho]
  split at h
  · rename_i a len cap k j e1 e2
    obtain ⟨h0, h1, h⟩ := h
    rw [e1, e2]
    refine ⟨_, readv_val ?_, h⟩
    unfold Instr.indexAt asIntOf
    rw [readv_bind', readv_pure']
    simp only [Option.bind_some, readv_bind', readv_underlying hu, readv_pure', if_pos (show 0 ≤ j ∧ j < (len : Int) from ⟨h0, h1⟩), hs]
  · exact h.elim
theorem nilc_sound {x : Operand} (ho : o.op = .nilCheck x) : Snd0 P o (.nilc x) := by
  intro ρ K h
  simp only [pureR, nilC] at h
  simp only [execOp, ho]
  split at h
  · rename_i a e; rw [e]; exact ⟨_, rfl, h⟩
  · rename_i f a b e; rw [e]; exact ⟨_, rfl, h⟩
  · rename_i f a b e; rw [e]; exact ⟨_, rfl, h⟩
  · exact h.elim
theorem mkfn_sound {fn : Fn} {first cap : Array Operand} (ho : o.op = .makeFunc fn first cap) : Snd0 P o (.mkfn fn first.toList cap.toList) := by
  intro ρ K h
  simp only [pureR] at h
  simp only [execOp, ho]
  refine ⟨_, readv_val rfl, ?_⟩
  have e1 : (first.toList.map ρ).toArray = first.map ρ := by rw [← Array.toList_map]
  have e2 : (cap.toList.map ρ).toArray = cap.map ρ := by rw [← Array.toList_map]
  rw [e1, e2] at h
  exact h
theorem mkif_sound {t : TypeId} {x : Operand} {d : TypeDesc} (ho : o.op = .makeInterface t x) (hu : P.underlying t = some d) (hd : ∀ ms, d ≠ .interface ms) : Snd0 P o (.mkif t x) := by
  intro ρ K h
  simp only [execOp, ho]
  refine ⟨_, readv_val ?_, h⟩
  unfold Instr.makeInterface
  rw [readv_bind', readv_underlying hu]
  cases d <;> first | exact absurd rfl (hd _) | rfl
theorem builtin_res {ρ : Operand → Value} {b : Builtin} {args : Array Operand} {ats : Array TypeId} (ho : o.op = .call { callee := .builtin b, args := args, argTypes := ats }) :
    ∃ cs, execOp ρ o = (do let d ← resolve ρ { callee := .builtin b, args := args, argTypes := ats } o.type; invoke d.target d.args) ∧ resolve ρ { callee := .builtin b, args := args, argTypes := ats } o.type = pure { target := .builtin b ats o.type cs, args := args.map ρ } := by
  refine ⟨args.map fun | .const _ => true | _ => false, ?_, rfl⟩
  simp only [execOp, ho]
theorem readv_builtin {ρ : Operand → Value} {b : Builtin} {args : Array Operand} {ats : Array TypeId} {v : Value} (ho : o.op = .call { callee := .builtin b, args := args, argTypes := ats })
    (hb : ∀ cs, readv P Hp.none (builtin b ats o.type cs (args.map ρ)) = some (.value v)) : readv P Hp.none (execOp ρ o) = some (.value v) := by
  obtain ⟨cs, e1, e2⟩ := builtin_res (ρ := ρ) ho
  rw [e1, e2, readv_bind', readv_pure']
  simp only [Option.bind_some, invoke]
  exact hb cs
theorem len_sound {x : Operand} {t : TypeId} {str : Bool} (ho : o.op = .call { callee := .builtin .len, args := #[x], argTypes := #[t] }) (hu : (str = true ∧ P.underlying t = some .string) ∨ (str = false ∧ ∃ e, P.underlying t = some (.slice e))) : Snd0 P o (.len str x) := by
  intro ρ K h
  simp only [pureR, lenC] at h
  split at h
  · rename_i s e
    rcases hu with ⟨_, hu⟩ | ⟨hc, _⟩
    · refine ⟨_, readv_builtin ho (fun cs => readv_val ?_), h⟩
      unfold Builtin.len_
      simp [readv_bind', readv_underlying hu, readv_pure', goInt, e]
    · cases hc
  · rename_i a n c e
    rcases hu with ⟨hc, _⟩ | ⟨_, el, hu⟩
    · cases hc
    · refine ⟨_, readv_builtin ho (fun cs => readv_val ?_), h⟩
      unfold Builtin.len_
      simp [readv_bind', readv_underlying hu, readv_pure', goInt, e]
  · exact h.elim
theorem cap_sound {x : Operand} {t e : TypeId} (ho : o.op = .call { callee := .builtin .cap, args := #[x], argTypes := #[t] }) (hu : P.underlying t = some (.slice e)) : Snd0 P o (.capp x) := by
  intro ρ K h
  simp only [pureR, capC] at h
  split at h
  · rename_i a n c e
    refine ⟨_, readv_builtin ho (fun cs => readv_val ?_), h⟩
    unfold Builtin.cap_
    simp [readv_bind', readv_underlying hu, readv_pure', goInt, e]
  · exact h.elim
theorem max_sound {x y : Operand} {ts : Array TypeId} (ho : o.op = .call { callee := .builtin .max, args := #[x, y], argTypes := ts }) : Snd0 P o (.maxi x y) := by
  intro ρ K h
  simp only [pureR, maxC] at h
  split at h
  · rename_i k m k' n e1 e2
    refine ⟨_, readv_builtin ho (fun cs => readv_val ?_), h⟩
    unfold Builtin.max_
    simp [e1, e2, Builtin.max2, readv_pure', readv_bind']
  · exact h.elim

/-! ### what reads -/
theorem readv_loadCells {S : Hp} (a : Addr) : ∀ (vs : List Value) (i : Nat) (acc : Array Value), CellsAt S a i vs → readv P S (loadCellsFrom a i vs.length acc) = some (acc ++ vs.toArray) := by
  intro vs
  induction vs with
  | nil => intro i acc _; simp [loadCellsFrom, readv_pure']
  | cons v vs ih =>
    intro i acc ⟨hc, h⟩
    simp only [List.length_cons, loadCellsFrom]
    rw [readv_bind']
    have : readv P S (load (a.add i)) = some v := by
      unfold load
      simp only [readv, hc]
    rw [this]
    simp only [Option.bind_some]
    rw [ih _ _ h]
    simp
theorem loadsC_some {S : Hp} {a : Addr} (cs : List CK) : ∀ {i : Nat} {K : List Value → Prop}, loadsC S a i cs K → ∃ vs, vs.length = cs.length ∧ CellsAt S a i vs ∧ K vs := by
  induction cs with
  | nil => intro i K h; exact ⟨[], rfl, trivial, by unfold loadsC at h; exact h⟩
  | cons c cs ih =>
    intro i K h
    unfold loadsC at h
    obtain ⟨v, hc, h⟩ := typd_some h
    obtain ⟨vs, hl, hv, h⟩ := ih h
    exact ⟨v :: vs, by simp [hl], ⟨hc, hv⟩, h⟩
theorem ld_sound {t : TypeId} {c : CK} {x : Operand} (ho : o.op = .load t x) (ha : ∀ S, readv P S (isAgg t) = some false) : Snd1 P o (.ld c x) := by
  intro ρ S K h
  simp only [readR, ldC] at h
  simp only [execOp, ho]
  split at h
  · rename_i a e
    obtain ⟨v, hc, h⟩ := typd_some h
    rw [e]
    have go : ∀ S' : Hp, S'.cell? a = some v → readv P S' (Instr.loadAt t (.pointer (some a))) = some v := by
      intro S' hc
      unfold Instr.loadAt Instr.sureAddr
      rw [readv_bind', readv_pure']
      simp only [Option.bind_some]
      unfold loadVar
      rw [readv_bind', ha]
      simp only [Option.bind_some, Bool.false_eq_true, if_false]
      unfold load
      simp only [readv, hc]
    exact ⟨v, _, readv_val (go S hc), h, fun S' hS => readv_val (go S' hS)⟩
  · exact h.elim
theorem lda_sound {t : TypeId} {cs : List CK} {x : Operand} (ho : o.op = .load t x) (ha : ∀ S, readv P S (isAgg t) = some true) (hs : ∀ S, readv P S (sizeOf t) = some cs.length) : Snd1 P o (.lda cs x) := by
  intro ρ S K h
  simp only [readR, ldaC] at h
  simp only [execOp, ho]
  split at h
  · rename_i a e
    obtain ⟨vs, hl, hc, h⟩ := loadsC_some cs h
    rw [e]
    have go : ∀ S' : Hp, CellsAt S' a 0 vs → readv P S' (Instr.loadAt t (.pointer (some a))) = some (.agg vs.toArray) := by
      intro S' hc
      unfold Instr.loadAt Instr.sureAddr
      rw [readv_bind', readv_pure']
      simp only [Option.bind_some]
      unfold loadVar
      rw [readv_bind', ha]
      simp only [Option.bind_some, if_true]
      rw [readv_bind', hs]
      simp only [Option.bind_some]
      rw [readv_bind']
      unfold loadCells
      rw [← hl, readv_loadCells a vs 0 #[] hc]
      simp [readv_pure']
    exact ⟨_, _, readv_val (go S hc), h, fun S' hS => readv_val (go S' hS)⟩
  · exact h.elim
end
end Go.PH
