/- PH: made slices, copies, structs held against each other, arrays, maps. -/
import Derived.Test.YtlonednppnmpeaaGreatDoorSound4
import Derived.IntWalk
import Derived.Laws.Strings
set_option linter.all false
set_option linter.unusedSimpArgs false
namespace Go.PH
open Go
section
variable {P : Program} {o : Oper}
theorem wpH_askRoom_iff {β : Type} {n : Nat} {f : Unit → Sem β} {S : Hp} {Q : β → Hp → Prop} : wpH P (askRoom n >>= f) S Q ↔ wpH P (f ()) S Q := by
  unfold askRoom
  split
  · exact Iff.rfl
  · exact Iff.rfl
theorem mksl_sound {t elem : TypeId} {l c : Operand} {i : TypeInfo} {z : Value} (ho : o.op = .makeSlice t l c) (hu : P.underlying t = some (.slice elem)) (hi : P.info? elem = some i) (hz : i.zero = some z) (hzs : z.cells.size = i.size) : Snd2 P o (.mksl elem i.bytes z.cells.toList l c) := by
  refine snd2_of fun ρ S K h => ?_
  simp only [allocR, mkslC] at h
  split at h
  · rename_i kl l' kc c' e1 e2
    obtain ⟨h0, h1, h2, h3, hk⟩ := h
    refine ⟨.cells (zeros z.cells.toList c'.toNat).toArray elem (0, 0), fun r => .slice (some ⟨r, 0, none⟩) l'.toNat c'.toNat, ?_, fun r hr => hk r hr⟩
    simp only [execOp, ho, e1, e2]
    intro S Q
    have wl : IntKind.i64.wrap l' = l' := by rw [IntKind.wrap_i64]; omega
    have wc : IntKind.i64.wrap c' = c' := by rw [IntKind.wrap_i64]; omega
    unfold Instr.makeSlice
    rw [bind_assoc', wpH_pre' (readv_underlying hu)]
    simp only
    rw [bind_assoc', wpH_pre' (a := l') rfl, bind_assoc', wpH_pre' (a := c') rfl, bind_assoc', wpH_pre' (readv_typeInfo hi)]
    simp only [wl, wc]
    have t48 : (2 : Int) ^ 48 = 281474976710656 := by decide
    have hnt : (decide (c' < 0) || decide ((i.bytes : Int) * c' > 2 ^ 48)) = false := by
      rw [Bool.or_eq_false_iff, decide_eq_false_iff_not, decide_eq_false_iff_not, t48]; omega
    have hcond : ¬ (((decide (c' < 0) || decide ((i.bytes : Int) * c' > 2 ^ 48)) || decide (l' < 0) || decide (l' > c')) = true) := by
      rw [hnt]
      simp
      omega
    rw [if_neg hcond]
    rw [bind_assoc', wpH_askRoom_iff, bind_assoc', wpH_pre' (readv_sizeOf hi)]
    have hfill : ∀ zr : Array Value, zr = (if c'.toNat * i.size = 0 then #[] else z.cells) → (Array.range (c'.toNat * i.size)).map (fun k => zr[k % zr.size]!) = (zeros z.cells.toList c'.toNat).toArray := by
      intro zr ezr
      by_cases h0 : c'.toNat * i.size = 0
      · rw [h0]
        apply Array.ext'
        simp
        refine List.eq_nil_of_length_eq_zero ?_
        rw [zeros_length]
        simpa [hzs] using h0
      · rw [if_neg h0] at ezr
        subst ezr
        have := zeroCells_eq z.cells.toList c'.toNat
        unfold Builtin.zeroCells at this
        simpa [hzs] using this
    by_cases h0 : c'.toNat * i.size = 0
    · rw [if_pos h0, bind_assoc', wpH_pre' (a := #[]) rfl]
      rw [hfill _ (by rw [if_pos h0])]
      exact ⟨fun h _ m hm => h m hm, fun h m hm => h 0 m hm⟩
    · rw [if_neg h0, bind_assoc', wpH_pre' (readv_zeroValue hi hz), bind_assoc', wpH_pre' (a := z.cells) rfl]
      rw [hfill _ (by rw [if_neg h0])]
      exact ⟨fun h _ m hm => h m hm, fun h m hm => h 0 m hm⟩
  · exact h.elim
theorem min_sound {x y : Operand} {ats : Array TypeId} (ho : o.op = .call { callee := .builtin .min, args := #[x, y], argTypes := ats }) : Snd0 P o (.mini x y) := by
  intro ρ K h
  simp only [pureR, minC] at h
  split at h
  · rename_i k m k' n e1 e2
    refine ⟨_, readv_builtin ho (fun cs => readv_val ?_), h⟩
    unfold Builtin.min_
    simp [e1, e2, Builtin.min2, readv_pure', readv_bind']
  · exact h.elim
theorem copy_sound {d x : Operand} {t t2 elem : TypeId} {i : TypeInfo} (ho : o.op = .call { callee := .builtin .copy, args := #[d, x], argTypes := #[t, t2] }) (hu : P.underlying t = some (.slice elem)) (hi : P.info? elem = some i) : Snd3 P o (.copy i.size d x) := by
  intro ρ S K h
  simp only [heavyR, copyC] at h
  obtain ⟨cs, e1, e2⟩ := builtin_res (ρ := ρ) ho
  rw [e1, e2]
  split at h
  · rename_i base dl cap e
    have go : wpH P (Builtin.copy_ #[t, t2] o.type #[ρ d, ρ x]) S (fun v S' => K v S') → wpH P (do let d' ← (pure { target := .builtin .copy #[t, t2] o.type cs, args := #[d, x].map ρ } : Sem Deferred); invoke d'.target d'.args) S (opPost P K) := by
      intro hw
      refine wpH_rd (a := { target := .builtin .copy #[t, t2] o.type cs, args := #[d, x].map ρ }) rfl ?_
      simp only [invoke, builtin]
      refine wpH_bind' _ _ ?_
      simp only [List.map_toArray, List.map_cons, List.map_nil]
      exact wpH_mono _ (fun v S' hk => wpH_pure' hk) hw
    refine go ?_
    rw [e]
    have key : ∃ m n l, readv P S (Builtin.lenOf (ρ x)) = some m ∧ Nat.min m dl = n ∧ readv P S (Builtin.firstCells i.size n (ρ x)) = some l.toArray ∧ (l.all vplain = true ∧ ((l = [] ∧ K (.int .i64 n) S) ∨ ∃ b off o, base = some ⟨b, off, none⟩ ∧ S b = some o ∧ okPut o off l.length ∧ K (.int .i64 n) (S.set b (oputs o off l)))) := by
      unfold srcN at h
      split at h
      · rename_i n c ex
        obtain ⟨rfl, h⟩ := h
        exact ⟨0, 0, [], by rw [ex]; rfl, by simp [Nat.min], by rw [ex]; rfl, h⟩
      · rename_i a n c ex
        obtain ⟨l, hl, hc, h⟩ := h
        exact ⟨n, min n dl, l, by rw [ex]; rfl, rfl, by rw [ex]; exact firstCells_slice (n := min n dl) (c := c) hl hc, h⟩
      · rename_i s ex
        obtain ⟨h1, h⟩ := h
        refine ⟨s.size, min s.size dl, _, by rw [ex]; rfl, rfl, ?_, h⟩
        rw [ex]
        unfold Builtin.firstCells
        simp only [readv_pure', Option.some.injEq]
        apply Array.ext'
        simp [byteCells]
      · exact h.elim
    obtain ⟨m, n, l, h1, h2, h3, h4, h5⟩ := key
    unfold Builtin.copy_
    simp only [List.getElem?_toArray, List.getElem?_cons_zero, List.getElem?_cons_succ, List.size_toArray, List.length_cons, List.length_nil]
    refine wpH_rd (readv_underlying hu) ?_
    simp only
    refine wpH_rd h1 ?_
    rw [h2]
    refine wpH_bind' _ _ (readv_wp _ (readv_sizeOf hi) ?_)
    refine wpH_rd h3 ?_
    rcases h5 with ⟨rfl, hk⟩ | ⟨b, off, ob, rfl, hb, ⟨c, e', lo, hh, rfl, q1, q2⟩, hk⟩
    · cases base <;> exact hk
    · simp only
      refine wpH_bind' _ _ ?_
      refine wp_storeCells l 0 (fun v hv => by rw [List.all_eq_true] at h4; exact h4 v hv) hb (by simpa using q1) (by simpa using q2) ?_
      exact wpH_pure' hk
  · exact h.elim
theorem appz_sound {s x : Operand} {t t2 elem : TypeId} {k2 : IntKind} {i : TypeInfo} {z : Value} (ho : o.op = .call { callee := .builtin .append, args := #[s, x], argTypes := #[t, t2] }) (hu : P.underlying t = some (.slice elem)) (hi : P.info? elem = some i) (hz : i.zero = some z)
    (hx : P.underlying t2 = some (.int k2)) (hb0 : i.bytes ≠ 0) (hzs : z.cells.size = i.size) : Snd3 P o (.appz elem i.size i.bytes z.cells.toList s x) := by
  intro ρ S K h
  simp only [heavyR, appzC] at h
  obtain ⟨cs, e1, e2⟩ := builtin_res (ρ := ρ) ho
  rw [e1, e2]
  split at h
  · rename_i base n cap k j e ex
    obtain ⟨g0, g1, g2, hl, h1, h2⟩ := h
    have go : wpH P (Builtin.append_ #[t, t2] o.type #[ρ s, ρ x]) S (fun v S' => K v S') → wpH P (do let d ← (pure { target := .builtin .append #[t, t2] o.type cs, args := #[s, x].map ρ } : Sem Deferred); invoke d.target d.args) S (opPost P K) := by
      intro hw
      refine wpH_rd (a := { target := .builtin .append #[t, t2] o.type cs, args := #[s, x].map ρ }) rfl ?_
      simp only [invoke, builtin]
      refine wpH_bind' _ _ ?_
      simp only [List.map_toArray, List.map_cons, List.map_nil]
      exact wpH_mono _ (fun v S' hk => wpH_pure' hk) hw
    refine go ?_
    rw [e, ex]
    obtain ⟨m, hm⟩ : ∃ m, j.toNat = m := ⟨_, rfl⟩
    have wj : IntKind.i64.wrap j = j := by rw [IntKind.wrap_i64]; omega
    have hll : (zeros z.cells.toList m).length = m * i.size := by rw [zeros_length]; simp [hzs]
    rw [hm] at hl h1 h2
    unfold Builtin.append_
    simp only [List.getElem?_toArray, List.getElem?_cons_zero, List.getElem?_cons_succ, List.size_toArray, List.length_cons, List.length_nil]
    refine wpH_rd (readv_underlying hu) ?_
    simp only
    refine wpH_rd (readv_sizeOf hi) ?_
    refine wpH_rd (readv_underlying hx) ?_
    refine wpH_rd (a := true) rfl ?_
    simp only [if_true, Bool.not_true, Bool.false_eq_true, if_false]
    refine wpH_rd (a := j) rfl ?_
    rw [wj, if_neg (by omega)]
    have t48 : (2 : Int) ^ 48 = 281474976710656 := by decide
    refine wpH_rd (readv_typeInfo hi) ?_
    rw [if_neg (by rw [t48]; omega)]
    refine wpH_bind' _ _ (wpH_pure' ?_)
    rw [hm]
    have hnew : readv P S (if m * i.size = 0 then pure #[] else do pure (Builtin.zeroCells (← zeroValue elem).cells m)) = some (zeros z.cells.toList m).toArray := by
      split
      · rename_i h0
        have : zeros z.cells.toList m = [] := List.eq_nil_of_length_eq_zero (by rw [hll]; exact h0)
        rw [this]
        rfl
      · rw [readv_bind', readv_zeroValue hi hz]
        have := zeroCells_eq z.cells.toList m
        simp only [Option.bind_some, readv_pure', Option.some.injEq]
        simpa using this
    by_cases hle : n + m ≤ cap
    · rw [if_pos hle]
      refine wpH_rd hnew ?_
      rcases h1 hle with ⟨rfl, hk⟩ | ⟨b, off, ob, rfl, hb, ⟨c, e', lo, hh, rfl, q1, q2⟩, hk⟩
      · exact wpH_pure' hk
      · simp only
        refine wpH_bind' _ _ ?_
        rw [addr_add]
        refine wp_storeCells _ 0 (fun v hv => by rw [List.all_eq_true] at hl; exact hl v hv) hb (by rw [hll]; simpa using q1) (by rw [hll]; simpa using q2) ?_
        exact wpH_pure' hk
    · rw [if_neg hle]
      have hlt : cap < n + m := by omega
      obtain ⟨hbb, old, ho1, ho2, ho3, hk⟩ := h2 hlt
      have hbnd : ¬ (((n + m : Nat) : Int) > IntKind.i64.max) := by
        have : IntKind.i64.max = 9223372036854775807 := by decide
        have hb1 : 1 ≤ i.bytes := Nat.one_le_iff_ne_zero.2 hb0
        have h3 : (n + m) * 1 ≤ (n + m) * i.bytes := Nat.mul_le_mul_left _ hb1
        have h4 : n + m ≤ 140737488355328 := by rw [Nat.mul_one] at h3; exact Nat.le_trans h3 hbb
        clear h3 hbb g2
        omega
      refine wpH_rd (readv_typeInfo hi) ?_
      rw [if_neg (show ¬ (((n + m : Nat) : Int) > IntKind.i64.max ∧ (True ∨ i.bytes = 0)) from fun hc => hbnd hc.1)]
      refine wpH_rd (readv_typeInfo hi) ?_
      rw [if_neg (nextcap_bytes hlt hbb)]
      refine wpH_bind' _ _ ?_
      show if (Question.appendCap (n + m) cap elem).forced = true then _ else _
      rw [if_neg (by simp [Question.forced])]
      intro tt
      show wpH P _ S _
      have hcut : n + m ≤ Question.cut (.appendCap (n + m) cap elem) tt := by simp only [Question.cut]; omega
      generalize Question.cut (.appendCap (n + m) cap elem) tt = nc at hcut
      refine wpH_rd (readv_typeInfo hi) ?_
      refine wpH_bind' _ _ (wpH_askRoom ?_)
      have hold : readv P S (Builtin.firstCells i.size n (.slice base n cap)) = some old.toArray := by
        cases base with
        | none =>
          have h0 := ho2 rfl
          subst h0
          have : old = [] := List.eq_nil_of_length_eq_zero (by simpa using ho1)
          subst this
          rfl
        | some a => exact firstCells_slice ho1 (ho3 a rfl)
      refine wpH_rd hold ?_
      refine wpH_rd hnew ?_
      refine wpH_rd (readv_zeroValue hi hz) ?_
      refine wpH_bind' _ _ ?_
      have hkc := hk nc hcut
      have ez : Builtin.zeroCells z.cells (nc - (n + m)) = (zeros z.cells.toList (nc - (n + m))).toArray := by
        have := zeroCells_eq z.cells.toList (nc - (n + m))
        simpa using this
      rw [ez]
      have e3 : old.toArray ++ (zeros z.cells.toList m).toArray ++ (zeros z.cells.toList (nc - (n + m))).toArray = (old ++ zeros z.cells.toList m ++ zeros z.cells.toList (nc - (n + m))).toArray := by simp
      rw [e3]
      intro r hr
      exact hkc r hr
  · exact h.elim
theorem xcall_sound {f : FuncId} {args : Array Operand} {ats : Array TypeId} {rk : RK} (ho : o.op = .call { callee := .value (.func f), args := args, argTypes := ats }) (ρ : Operand → Value) (S : Hp) (K : Value → Hp → Prop) (hρ : ρ (.func f) = .func (.func f) #[] #[]) (h : heavyR P (.xcall f args.toList rk) ρ S K) : wpH P (execOp ρ o) S (opPost P K) := by
  simp only [heavyR, xcallC] at h
  obtain ⟨fn, e, hf, hb, hn, h1, h2, h⟩ := h
  simp only [execOp, ho, resolve, hρ, Deferred.ofValue]
  show wpH P (callFunc f ((#[] ++ args.map ρ) ++ #[])) S _
  have e3 : ((#[] ++ args.map ρ) ++ #[] : Array Value) = (args.toList.map ρ).toArray := Array.ext' (by simp)
  rw [e3]
  unfold callFunc program
  show wpH P (match P.funcs[f]? with | none => _ | some fn => _) S _
  rw [hf]
  simp only [hn, hb, h1, h2]
  show wpH P (do let v ← e (args.toList.map ρ).toArray; pure (Next.value v)) S _
  refine wpH_bind' _ _ (wpH_mono _ ?_ h)
  intro v S' hk
  exact wpH_pure' (typR_wp v S' hk)
theorem idxa_sound {t elem : TypeId} {x ix : Operand} {len size : Nat} {agg : Bool} (ho : o.op = .index t x ix) (hu : P.underlying t = some (.array len elem)) (hs : readv P Hp.none (sizeOf elem) = some size) (ha : readv P Hp.none (isAgg elem) = some agg) : Snd0 P o (.idxa size len agg x ix) := by
  intro ρ K h
  simp only [pureR, idxaC] at h
  simp only [execOp, ho]
  split at h
  · rename_i cs k j e1 e2
    obtain ⟨h0, h1, h⟩ := h
    rw [e1, e2]
    have go : ∀ v, readv P Hp.none (part elem cs (j.toNat * size)) = some v → readv P Hp.none (Instr.index t (.agg cs) (.int k j)) = some v := by
      intro v hv
      unfold Instr.index
      rw [readv_bind', show readv P Hp.none (asIntOf (.int k j)) = some (k, j) from rfl]
      simp only [Option.bind_some]
      rw [readv_bind', readv_underlying hu]
      simp only [Option.bind_some]
      rw [if_pos ⟨h0, h1⟩, readv_bind', hs]
      exact hv
    cases agg
    · simp only [Bool.false_eq_true, if_false] at h
      split at h
      · rename_i v hv
        refine ⟨v, readv_val (go v ?_), h⟩
        unfold part
        rw [readv_bind', ha]
        simp only [Option.bind_some, Bool.false_eq_true, if_false, hv]
        rfl
      · exact h.elim
    · simp only [if_true] at h
      refine ⟨_, readv_val (go _ ?_), h⟩
      unfold part
      rw [readv_bind', ha]
      simp only [Option.bind_some, if_true]
      rw [readv_bind', hs]
      rfl
  · exact h.elim
theorem iap_sound {t elem : TypeId} {x ix : Operand} {len size : Nat} (ho : o.op = .indexAddr t x ix) (hu : P.underlying t = some (.array len elem)) (hs : readv P Hp.none (sizeOf elem) = some size) : Snd0 P o (.iap size len x ix) := by
  intro ρ K h
  simp only [pureR, iapC] at h
  simp only [execOp, ho]
  split at h
  · rename_i a k j e1 e2
    obtain ⟨h0, h1, h⟩ := h
    rw [e1, e2]
    refine ⟨_, readv_val ?_, h⟩
    unfold Instr.indexAt
    rw [readv_bind', show readv P Hp.none (asIntOf (.int k j)) = some (k, j) from rfl]
    simp only [Option.bind_some]
    rw [readv_bind', readv_underlying hu]
    simp only [Option.bind_some]
    rw [readv_bind', show readv P Hp.none (Instr.sureAddr (.pointer (some a))) = some a from rfl]
    simp only [Option.bind_some]
    rw [readv_bind', readv_pure']
    simp only [Option.bind_some]
    rw [readv_bind', readv_underlying hu]
    simp only [Option.bind_some]
    rw [if_pos ⟨h0, h1⟩, readv_bind', hs]
    rfl
  · exact h.elim
theorem slarr_sound {t elem : TypeId} {x : Operand} {lo hi : Option Operand} {len size : Nat} (ho : o.op = .slice t x lo hi none) (hu : P.underlying t = some (.array len elem)) (hs : readv P Hp.none (sizeOf elem) = some size) : Snd0 P o (.slarr size len x lo hi) := by
  intro ρ K h
  simp only [pureR, slarrC] at h
  simp only [execOp, ho]
  split at h
  · rename_i a e1
    rw [e1]
    obtain ⟨hh, h, hhi⟩ := boundC_some h
    obtain ⟨ll, h, hlo⟩ := boundC_some h
    obtain ⟨g1, g2, g3, g4, hk⟩ := h
    refine ⟨_, readv_val ?_, hk⟩
    have hbs := readv_sliceBounds (P := P) (isSlice := false) (len := len) (cap := len) (m := (len : Int)) (mx := none) (.inl ⟨rfl, rfl⟩) hhi hlo (fun _ => rfl) (by omega) (by omega) g1 (fun _ => g2) g3 g4
    unfold Instr.sliceAt
    rw [readv_bind', readv_underlying hu]
    simp only [Option.bind_some]
    rw [readv_bind', show readv P Hp.none (Instr.sureAddr (.pointer (some a))) = some a from rfl]
    simp only [Option.bind_some]
    rw [readv_bind', show (none : Option Operand).map ρ = none from rfl, hbs]
    simp only [Option.bind_some, Int.toNat_natCast]
    rw [readv_bind', hs]
    rfl
  · exact h.elim

/-! ### maps -/
def keyKind (d : TypeDesc) : Option Bool := match d with | .string => some true | .int _ => some false | _ => none
theorem findNow_kind {d : TypeDesc} {str : Bool} (h : keyKind d = some str) (k : Value) : ∀ (es : List MapEntry) (i : Nat), Instr.findNow d k es i = Instr.findNow (if str = true then .string else .int .i64) k es i := by
  intro es
  induction es with
  | nil => intro i; rfl
  | cons e es ih =>
    intro i
    simp only [Instr.findNow]
    have : Instr.sameNow d k e.key = Instr.sameNow (if str = true then .string else .int .i64) k e.key := by
      cases d <;> simp [keyKind] at h
      all_goals
        subst h
        generalize e.key = q
        cases k <;> cases q <;> rfl
    rw [this, ih]
theorem checkKey_ok {kt : TypeId} {d : TypeDesc} {str : Bool} {b : Bool} {k : Value} {S : Hp} (hu : P.underlying kt = some d) (h : keyKind d = some str) : readv P S (Instr.checkKey b 10000 kt k) = some () := by
  show readv P S (Instr.checkKey b (9999 + 1) kt k) = some ()
  unfold Instr.checkKey
  rw [readv_bind', readv_underlying hu]
  simp only [Option.bind_some]
  cases d <;> simp [keyKind] at h <;> rfl
theorem findKey_ok {kt : TypeId} {d : TypeDesc} {str : Bool} {k : Value} {es : List MapEntry} {r : Option (Nat × Value)} {S : Hp} (hu : P.underlying kt = some d) (h : keyKind d = some str) (hf : mfind str k es = some r) : readv P S (Instr.findKey kt k es) = some r := by
  unfold Instr.findKey
  rw [readv_bind', readv_underlying hu]
  simp only [Option.bind_some]
  rw [findNow_kind h]
  unfold mfind at hf
  rw [hf]
  rfl
theorem lk_sound {t kt et : TypeId} {d : TypeDesc} {str ok : Bool} {z : Value} {x k : Operand} (ho : o.op = .lookup t x k ok) (hu : P.underlying t = some (.map kt et)) (hk : P.underlying kt = some d) (hd : keyKind d = some str) (hz : ∀ S, readv P S (zeroValue et) = some z) : Snd1 P o (.lk str z ok x k) := by
  intro ρ S K h
  simp only [readR, lkC] at h
  simp only [execOp, ho]
  have tail : ∀ (S : Hp) (es : Array MapEntry) (r : Option (Nat × Value)), mfind str (ρ k) es.toList = some r → readv P S (do
      Instr.checkKey es.isEmpty 10000 kt (ρ k)
      let (v, ok') ← match ← Instr.findKey kt (ρ k) es.toList with
        | some (_, v) => pure (v, true)
        | none => pure (← zeroValue et, false)
      pure (if ok then .tuple #[v, .bool ok'] else v)) = some (lkRes z ok r) := by
    intro S es r h2
    rw [readv_bind', checkKey_ok hk hd]
    simp only [Option.bind_some]
    rw [readv_bind', findKey_ok hk hd h2]
    simp only [Option.bind_some]
    cases r with
    | some p => cases ok <;> rfl
    | none =>
      simp only
      rw [readv_bind', hz]
      cases ok <;> rfl
  split at h
  · rename_i e
    rw [e]
    have run : ∀ S, readv P S (Instr.lookup t (.map none) (ρ k) ok) = some (lkRes z ok none) := by
      intro S
      unfold Instr.lookup
      rw [readv_bind', readv_underlying hu]
      simp only [Option.bind_some]
      exact tail S #[] none rfl
    exact ⟨_, _, readv_val (run S), h, fun S' _ => readv_val (run S')⟩
  · rename_i r e
    obtain ⟨es, cl, res, hS, hf, hK⟩ := h
    rw [e]
    have run : ∀ S : Hp, S r = some (.map es cl) → readv P S (Instr.lookup t (.map (some r)) (ρ k) ok) = some (lkRes z ok res) := by
      intro S hS
      unfold Instr.lookup
      rw [readv_bind', readv_underlying hu]
      simp only [Option.bind_some]
      rw [readv_bind']
      simp only [getObj, readv, hS, oplain, if_true, Option.bind_some]
      exact tail S es res hf
    exact ⟨_, _, readv_val (run S hS), hK, fun S' hS' => readv_val (run S' hS')⟩
  · exact h.elim
theorem wpH_getObj {r : Nat} {ob : Obj} {S : Hp} {β : Type} {f : Obj → Sem β} {Q : β → Hp → Prop} (hS : S r = some ob) (hp : oplain ob = true) (h : wpH P (f ob) S Q) : wpH P (getObj r >>= f) S Q := ⟨ob, hS, hp, h⟩
theorem mset_sound {t kt et : TypeId} {d : TypeDesc} {str : Bool} {m k v : Operand} (ho : o.op = .mapUpdate t m k v ∨ o.op = .insert t m k v) (hu : P.underlying t = some (.map kt et)) (hk : P.underlying kt = some d) (hd : keyKind d = some str) : Snd3 P o (.mset str m k v) := by
  intro ρ S K h
  simp only [heavyR, msetC] at h
  have e0 : execOp ρ o = (do Instr.mapUpdate t (ρ m) (ρ k) (ρ v); pure .skip) := by
    rcases ho with ho | ho <;> simp only [execOp, ho]
  rw [e0]
  split at h
  · rename_i r e
    obtain ⟨es, cl, res, hS, hf, h⟩ := h
    rw [e]
    refine wpH_bind' _ _ ?_
    unfold Instr.mapUpdate
    refine wpH_rd (readv_underlying hu) ?_
    simp only
    refine wpH_getObj hS rfl ?_
    simp only
    refine wpH_rd (checkKey_ok hk hd) ?_
    refine wpH_rd (findKey_ok hk hd hf) ?_
    cases res with
    | some p =>
      obtain ⟨i, u⟩ := p
      simp only at h ⊢
      obtain ⟨hsb, h⟩ := h
      refine wpH_rd (a := ρ k) ?_ ?_
      · unfold Instr.keyThatStays
        rw [if_pos hsb]
        rfl
      · exact ⟨⟨_, hS, rfl⟩, h⟩
    | none => exact ⟨⟨_, hS, rfl⟩, h⟩
  · exact h.elim
theorem mdel_sound {m k : Operand} {t t2 kt et : TypeId} {d : TypeDesc} {str : Bool} (ho : o.op = .call { callee := .builtin .delete, args := #[m, k], argTypes := #[t, t2] }) (hu : P.underlying t = some (.map kt et)) (hk : P.underlying kt = some d) (hd : keyKind d = some str) : Snd3 P o (.mdel str m k) := by
  intro ρ S K h
  simp only [heavyR, mdelC] at h
  obtain ⟨cs, e1, e2⟩ := builtin_res (ρ := ρ) ho
  rw [e1, e2]
  have go : wpH P (Builtin.delete_ #[t, t2] o.type #[ρ m, ρ k]) S (fun v S' => K v S') → wpH P (do let d' ← (pure { target := .builtin .delete #[t, t2] o.type cs, args := #[m, k].map ρ } : Sem Deferred); invoke d'.target d'.args) S (opPost P K) := by
    intro hw
    refine wpH_rd (a := { target := .builtin .delete #[t, t2] o.type cs, args := #[m, k].map ρ }) rfl ?_
    simp only [invoke, builtin]
    refine wpH_bind' _ _ ?_
    simp only [List.map_toArray, List.map_cons, List.map_nil]
    exact wpH_mono _ (fun v S' hk => wpH_pure' hk) hw
  refine go ?_
  unfold Builtin.delete_
  simp only [List.getElem?_toArray, List.getElem?_cons_zero, List.getElem?_cons_succ, List.size_toArray, List.length_cons, List.length_nil]
  refine wpH_rd (readv_underlying hu) ?_
  simp only
  split at h
  · rename_i e
    rw [e]
    refine wpH_rd (checkKey_ok hk hd) ?_
    exact h
  · rename_i r e
    obtain ⟨es, cl, res, hS, hf, h⟩ := h
    rw [e]
    refine wpH_getObj hS rfl ?_
    simp only
    refine wpH_rd (checkKey_ok hk hd) ?_
    refine wpH_rd (findKey_ok hk hd hf) ?_
    cases res with
    | some p => exact ⟨⟨_, hS, rfl⟩, h⟩
    | none => exact ⟨⟨_, hS, rfl⟩, h⟩
  · exact h.elim

/-! ### structs held against each other -/
def basicB (P : Program) (t : TypeId) : Bool := match P.underlying t with | some (.int _) => true | some .string => true | some .bool => true | _ => false
/-- A struct of plain fields, one cell each. -/
def flatB (P : Program) : Nat → List Field → Bool
  | _, [] => true
  | i, f :: fs => f.name != "_" && f.offset == i && basicB P f.type && flatB P (i + 1) fs
theorem strEq_beq {a c : ByteArray} : strEq a c = (a == c) := by
  have e : (a == c) = (a.data == c.data) := rfl
  rw [e, Bool.eq_iff_iff, beq_iff_eq]
  unfold strEq
  rw [beq_iff_eq, ByteArray.toList_eq, ByteArray.toList_eq]
  exact ⟨fun h => Array.ext' h, fun h => by rw [h]⟩
theorem eqV_sound {t : TypeId} {x y : Value} {b : Bool} {n : Nat} (h : basicB P t = true) (he : eqV (ckOf P t) x y = some b) : readv P Hp.none (Op.equalIn (n + 1) t x y) = some b := by
  unfold basicB at h
  unfold Op.equalIn
  split at h
  · rename_i k hu
    have hc : ckOf P t = .int k := by unfold ckOf; rw [hu]
    rw [hc] at he
    rw [readv_bind', readv_underlying hu]
    simp only [Option.bind_some]
    cases x <;> cases y <;> simp only [eqV, reduceCtorEq] at he
    split at he
    · rename_i hk
      subst hk
      cases he
      simp [readv_pure']
    · cases he
  · rename_i hu
    have hc : ckOf P t = .str := by unfold ckOf; rw [hu]
    rw [hc] at he
    rw [readv_bind', readv_underlying hu]
    simp only [Option.bind_some]
    cases x <;> cases y <;> simp only [eqV, reduceCtorEq] at he
    rename_i a c
    simp only [Option.some.injEq] at he
    subst he
    show some (a == c) = some (strEq a c)
    rw [strEq_beq]
  · rename_i hu
    have hc : ckOf P t = .bool := by unfold ckOf; rw [hu]
    rw [hc] at he
    rw [readv_bind', readv_underlying hu]
    simp only [Option.bind_some]
    cases x <;> cases y <;> simp only [eqV, reduceCtorEq] at he
    cases he
    rfl
  · cases h
theorem part_sound {t : TypeId} {cs : Array Value} {off : Nat} {v : Value} {S : Hp} (h : basicB P t = true) (hv : cs[off]? = some v) : readv P S (part t cs off) = some v := by
  have ha : readv P S (isAgg t) = some false := by
    unfold isAgg
    unfold basicB at h
    split at h
    all_goals first
      | (cases h; done)
      | (rename_i hu; rw [readv_bind', readv_underlying hu]; rfl)
  unfold part
  rw [readv_bind', ha]
  simp only [Option.bind_some, Bool.false_eq_true, if_false, hv]
  rfl
theorem flds_sound {n : Nat} {xs ys : Array Value} (body : Field → Option Bool × Unit → Sem (ForInStep (Option Bool × Unit)))
    (hb : ∀ (f : Field) (i : Nat) (x y : Value) (b : Bool), f.name ≠ "_" → f.offset = i → basicB P f.type = true → xs[i]? = some x → ys[i]? = some y → eqV (ckOf P f.type) x y = some b →
      readv P Hp.none (body f (none, ())) = some (if b = true then .yield (none, ()) else .done (some false, ()))) :
    ∀ (fs : List Field) (i : Nat) (b : Bool), flatB P i fs = true → eqL (fs.map fun f => ckOf P f.type) (xs.toList.drop i) (ys.toList.drop i) = some b → readv P Hp.none (forIn fs (none, ()) body) = some (if b = true then (none, ()) else (some false, ())) := by
  intro fs
  induction fs with
  | nil =>
    intro i b _ h
    have : b = true := by
      simp only [List.map_nil] at h
      unfold eqL at h
      split at h
      · cases h; rfl
      · rename_i e _ _; cases e
      · cases h
    subst this
    rfl
  | cons f fs ih =>
    intro i b hf h
    simp only [flatB, Bool.and_eq_true, bne_iff_ne, beq_iff_eq] at hf
    obtain ⟨⟨⟨h1, h2⟩, h3⟩, h4⟩ := hf
    simp only [List.map_cons] at h
    unfold eqL at h
    split at h
    · rename_i e _ _; cases e
    · rename_i c cs x xs' y ys' e ex ey
      cases e
      have gx : xs[i]? = some x := by
        rw [← Array.getElem?_toList]
        have := congrArg (fun l => l[0]?) ex
        simpa using this
      have gy : ys[i]? = some y := by
        rw [← Array.getElem?_toList]
        have := congrArg (fun l => l[0]?) ey
        simpa using this
      have dx : xs.toList.drop (i + 1) = xs' := by
        have := congrArg List.tail ex
        simpa [List.tail_drop] using this
      have dy : ys.toList.drop (i + 1) = ys' := by
        have := congrArg List.tail ey
        simpa [List.tail_drop] using this
      split at h
      · rename_i a b' ea eb
        cases h
        rw [List.forIn_cons, readv_bind', hb f i x y a h1 h2 h3 gx gy ea]
        simp only [Option.bind_some]
        cases a
        · rfl
        · have := ih (i + 1) b' h4 (by rw [dx, dy]; exact eb)
          simpa using this
      · cases h
    · cases h
theorem eqs_sound {op : BinOp} {neg : Bool} {t yt : TypeId} {x y : Operand} {fs : Array Field} (ho : o.op = .binOp op t x y yt) (hop : op = if neg = true then .neq else .eql) (hu : P.underlying t = some (.struct fs)) (hf : flatB P 0 fs.toList = true)
    (hs : P.stoodInHeld t = false) (hg : P.eqGuardType P.depth t = false) : Snd0 P o (.eqs neg (fs.toList.map fun f => ckOf P f.type) x y) := by
  intro ρ K h
  simp only [pureR, eqsC] at h
  simp only [execOp, ho]
  split at h
  · rename_i xs ys e1 e2
    split at h
    · rename_i b he
      rw [e1, e2]
      have hguard : readv P Hp.none (eqGuard op t x y (.agg xs) (.agg ys)) = some () := by
        unfold eqGuard
        cases neg <;> simp at hop <;> subst hop
        all_goals
          rw [if_neg (by simp)]
          rw [readv_bind']
          simp only [program, readv, Option.bind_some]
          rw [readv_bind']
          simp only [readv, Option.bind_some, hg]
          rfl
      have heq : readv P Hp.none (Op.equal t (.agg xs) (.agg ys)) = some b := by
        unfold Op.equal
        show readv P Hp.none (Op.equalIn (9999 + 1) t _ _) = _
        unfold Op.equalIn
        rw [readv_bind', readv_underlying hu]
        simp only [Option.bind_some]
        rw [readv_bind']
        simp only [program, readv, Option.bind_some, hs]
        rw [if_neg (by simp), readv_bind', ← Array.forIn_toList]
        rw [flds_sound (n := 9999) (xs := xs) (ys := ys) _ ?_ fs.toList 0 b hf (by simpa using he)]
        · cases b <;> rfl
        · intro f i x y b hn ho hb hx hy he
          rw [if_pos hn, ho, readv_bind', part_sound hb hx]
          simp only [Option.bind_some]
          rw [readv_bind', part_sound hb hy]
          simp only [Option.bind_some]
          rw [readv_bind', eqV_sound (n := 9998) hb he]
          cases b <;> rfl
      refine ⟨_, readv_val ?_, h⟩
      rw [readv_bind', hguard]
      simp only [Option.bind_some]
      cases neg <;> simp at hop <;> subst hop
      · show readv P Hp.none (do pure (Value.bool (← Op.equal t (.agg xs) (.agg ys)))) = _
        rw [readv_bind', heq]; rfl
      · show readv P Hp.none (do pure (Value.bool (!(← Op.equal t (.agg xs) (.agg ys))))) = _
        rw [readv_bind', heq]; rfl
    · exact h.elim
  · exact h.elim
end
end Go.PH
