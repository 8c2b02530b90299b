/- PH: append, bytes of a string, builds. -/
import Derived.Test.YtlonednppnmpeaaGreatDoorSound2
set_option linter.all false
set_option linter.unusedSimpArgs false
namespace Go.PH
open Go
section
variable {P : Program} {o : Oper}
theorem wpH_rd {α β : Type} {s : Sem α} {a : α} {f : α → Sem β} {S : Hp} {Q : β → Hp → Prop} (h : readv P S s = some a) (hf : wpH P (f a) S Q) : wpH P (s >>= f) S Q := wpH_bind' _ _ (readv_wp _ h hf)
theorem firstCells_slice {S : Hp} {a : Addr} {n c size : Nat} {l : List Value} (hl : l.length = n * size) (hc : CellsAt S a 0 l) : readv P S (Builtin.firstCells size n (.slice (some a) n c)) = some l.toArray := by
  unfold Builtin.firstCells loadCells
  rw [← hl, readv_loadCells a l 0 #[] hc]
  simp
theorem firstCells_string {S : Hp} {s : ByteArray} {size : Nat} : readv P S (Builtin.firstCells size s.size (.string s)) = some (byteCells s.data.toList).toArray := by
  unfold Builtin.firstCells
  simp only [readv_pure', Option.some.injEq]
  have e : (s.extract 0 s.size).data = s.data := by simp
  rw [e]
  apply Array.ext'
  simp [byteCells]
theorem src_some {size : Nat} {x : Value} {S : Hp} {K : Nat → List Value → Prop} (h : srcC size x S K) : ∃ n l, K n l ∧ readv P S (Builtin.lenOf x) = some n ∧ readv P S (Builtin.firstCells size n x) = some l.toArray ∧ l.length = n * size := by
  unfold srcC at h
  split at h
  · rename_i n c
    obtain ⟨rfl, h⟩ := h
    exact ⟨0, [], h, rfl, rfl, by simp⟩
  · rename_i a n c
    obtain ⟨l, hl, hc, h⟩ := h
    exact ⟨n, l, h, rfl, firstCells_slice hl hc, hl⟩
  · rename_i s
    obtain ⟨rfl, h⟩ := h
    exact ⟨s.size, _, h, rfl, firstCells_string, by simp [byteCells]⟩
  · exact h.elim
theorem growBy_le (newLen : Nat) : ∀ (rounds c : Nat), c ≤ newLen → Builtin.growBy newLen rounds c ≤ newLen + (newLen + 768) / 4 := by
  intro rounds
  induction rounds with
  | zero => intro c hc; simp only [Builtin.growBy]; omega
  | succ r ih =>
    intro c hc
    simp only [Builtin.growBy]
    split
    · omega
    · rename_i h
      by_cases h2 : c + (c + 768) / 4 ≤ newLen
      · exact ih _ h2
      · cases r with
        | zero => simp only [Builtin.growBy]; omega
        | succ r => simp only [Builtin.growBy]; rw [if_pos (by omega)]; omega
theorem nextcap_le {need old : Nat} (h : old < need) : Builtin.nextslicecap need old ≤ 2 * need + 192 := by
  unfold Builtin.nextslicecap
  split
  · omega
  · split
    · omega
    · have := growBy_le need 4 old (by omega)
      omega
theorem nextcap_bytes {need old bytes : Nat} (h : old < need) (hb : need * bytes ≤ 140737488355328) : ¬ Builtin.nextslicecap need old * bytes > 2 ^ 48 := by
  have h1 : Builtin.nextslicecap need old ≤ 2 * need ∨ (256 ≤ old ∧ Builtin.nextslicecap need old ≤ need + (need + 768) / 4) := by
    unfold Builtin.nextslicecap
    split
    · left; omega
    · split
      · left; omega
      · right
        exact ⟨by omega, growBy_le need 4 old (by omega)⟩
  have h2 : Builtin.nextslicecap need old ≤ 2 * need := by
    rcases h1 with h1 | ⟨h1, h3⟩
    · exact h1
    · omega
  have h3 : Builtin.nextslicecap need old * bytes ≤ 2 * need * bytes := Nat.mul_le_mul_right _ h2
  have h4 : 2 * need * bytes = 2 * (need * bytes) := Nat.mul_assoc ..
  have : (2 : Nat) ^ 48 = 281474976710656 := by decide
  omega
theorem zeros_get (zero : List Value) : ∀ (n i : Nat), i < n * zero.length → (zeros zero n)[i]? = zero[i % zero.length]? := by
  intro n
  induction n with
  | zero => intro i hi; simp at hi
  | succ n ih =>
    intro i hi
    unfold zeros
    rw [List.replicate_succ, List.flatten_cons]
    by_cases h : i < zero.length
    · rw [List.getElem?_append_left h, Nat.mod_eq_of_lt h]
    · rw [List.getElem?_append_right (by omega)]
      have hlt : i - zero.length < n * zero.length := by rw [Nat.succ_mul] at hi; omega
      rw [show (List.replicate n zero).flatten = zeros zero n from rfl, ih _ hlt]
      congr 1
      conv => rhs; rw [← Nat.sub_add_cancel (show zero.length ≤ i by omega)]
      rw [Nat.add_mod_right]
theorem zeros_length (zero : List Value) (n : Nat) : (zeros zero n).length = n * zero.length := by
  induction n with
  | zero => simp [zeros]
  | succ n ih => unfold zeros at *; rw [List.replicate_succ, List.flatten_cons, List.length_append, ih, Nat.succ_mul]; omega
theorem zeroCells_eq (zero : List Value) (n : Nat) : Builtin.zeroCells zero.toArray n = (zeros zero n).toArray := by
  unfold Builtin.zeroCells
  apply Array.ext_getElem?
  intro i
  simp only [List.size_toArray, List.getElem?_toArray]
  rw [Array.getElem?_map]
  by_cases h : i < n * zero.length
  · rw [zeros_get _ _ _ h]
    have hz : 0 < zero.length := by
      rcases Nat.eq_zero_or_pos zero.length with h0 | h0
      · rw [h0] at h; omega
      · exact h0
    have hm : i % zero.length < zero.length := Nat.mod_lt _ hz
    rw [Array.getElem?_range, if_pos h]
    simp [List.getElem?_eq_getElem hm, hm]
  · rw [Array.getElem?_range, if_neg h, List.getElem?_eq_none (by rw [zeros_length]; omega)]
    rfl
theorem wpH_askRoom {n : Nat} {S : Hp} {Q : Unit → Hp → Prop} (h : Q () S) : wpH P (askRoom n) S Q := by
  unfold askRoom
  split
  · exact h
  · exact h
theorem app_sound {s x : Operand} {t t2 elem : TypeId} {i : TypeInfo} {z : Value} (ho : o.op = .call { callee := .builtin .append, args := #[s, x], argTypes := #[t, t2] }) (hu : P.underlying t = some (.slice elem)) (hi : P.info? elem = some i) (hz : i.zero = some z)
    (hx : ∃ d, P.underlying t2 = some d ∧ ∀ k, d ≠ .int k) (hb0 : i.bytes ≠ 0) : Snd3 P o (.app elem i.size i.bytes z.cells.toList s x) := by
  intro ρ S K h
  simp only [heavyR, appC] at h
  obtain ⟨cs, e1, e2⟩ := builtin_res (ρ := ρ) ho
  rw [e1, e2]
  split at h
  · rename_i base n cap e
    obtain ⟨m, l, ⟨hl, h1, h2⟩, hlen, hfst, hll⟩ := src_some (P := P) h
    have go : wpH P (Builtin.append_ #[t, t2] o.type #[ρ s, ρ x]) S (fun v S' => K v S') → wpH P (do let d ← (pure { target := .builtin .append #[t, t2] o.type cs, args := #[s, x].map ρ } : Sem Deferred); invoke d.target d.args) S (opPost P K) := by
      intro hw
      refine wpH_rd (a := { target := .builtin .append #[t, t2] o.type cs, args := #[s, x].map ρ }) rfl ?_
      simp only [invoke, builtin]
      refine wpH_bind' _ _ ?_
      simp only [List.map_toArray, List.map_cons, List.map_nil]
      exact wpH_mono _ (fun v S' hk => wpH_pure' hk) hw
    refine go ?_
    rw [e]
    obtain ⟨d, hd, hnk⟩ := hx
    unfold Builtin.append_
    simp only [List.getElem?_toArray, List.getElem?_cons_zero, List.getElem?_cons_succ, List.size_toArray, List.length_cons, List.length_nil]
    refine wpH_rd (readv_underlying hu) ?_
    simp only
    refine wpH_rd (readv_sizeOf hi) ?_
    refine wpH_rd (readv_underlying hd) ?_
    refine wpH_rd (a := false) (by cases d <;> first | rfl | exact absurd rfl (hnk _)) ?_
    simp only [Bool.false_eq_true, if_false, Bool.not_false, if_true]
    refine wpH_rd hlen ?_
    by_cases hle : n + m ≤ cap
    · rw [if_pos hle]
      refine wpH_rd hfst ?_
      rcases h1 hle with ⟨rfl, rfl, hk⟩ | ⟨b, off, ob, rfl, hb, ⟨c, e', lo, hh, rfl, q1, q2⟩, hk⟩
      · exact wpH_pure' hk
      · simp only
        refine wpH_bind' _ _ ?_
        rw [addr_add]
        refine wp_storeCells l 0 (fun v hv => by rw [List.all_eq_true] at hl; exact hl v hv) hb (by rw [hll]; simpa using q1) (by rw [hll]; simpa using q2) ?_
        exact wpH_pure' hk
    · rw [if_neg hle]
      have hlt : cap < n + m := by omega
      obtain ⟨hbb, old, ho1, ho2, ho3, hk⟩ := h2 hlt
      refine wpH_rd (readv_typeInfo hi) ?_
      rw [if_neg (by simp [hb0])]
      refine wpH_rd (readv_typeInfo hi) ?_
      rw [if_neg (nextcap_bytes hlt hbb)]
      refine wpH_bind' _ _ ?_
      show if (Question.appendCap (n + m) cap elem).forced = true then _ else _
      rw [if_neg (by simp [Question.forced])]
      intro tt
      show wpH P _ S _
      have hcut : n + m ≤ Question.cut (.appendCap (n + m) cap elem) tt := by simp only [Question.cut]; omega
      generalize Question.cut (.appendCap (n + m) cap elem) tt = nc at hcut
      refine wpH_rd (readv_typeInfo hi) ?_
      refine wpH_bind' _ _ (wpH_askRoom ?_)
      have hold : readv P S (Builtin.firstCells i.size n (.slice base n cap)) = some old.toArray := by
        cases base with
        | none =>
          have h0 := ho2 rfl
          subst h0
          have : old = [] := List.eq_nil_of_length_eq_zero (by simpa using ho1)
          subst this
          rfl
        | some a => exact firstCells_slice ho1 (ho3 a rfl)
      refine wpH_rd hold ?_
      refine wpH_rd hfst ?_
      refine wpH_rd (readv_zeroValue hi hz) ?_
      refine wpH_bind' _ _ ?_
      have hkc := hk nc hcut
      have ez : Builtin.zeroCells z.cells (nc - (n + m)) = (zeros z.cells.toList (nc - (n + m))).toArray := by
        have := zeroCells_eq z.cells.toList (nc - (n + m))
        simpa using this
      rw [ez]
      have e3 : old.toArray ++ l.toArray ++ (zeros z.cells.toList (nc - (n + m))).toArray = (old ++ l ++ zeros z.cells.toList (nc - (n + m))).toArray := by simp
      rw [e3]
      intro r hr
      exact hkc r hr
  · exact h.elim
theorem strb_sound {s d e : TypeId} {x : Operand} (ho : o.op = .convert s d x) (hs : P.underlying s = some .string) (hd : P.underlying d = some (.slice e)) (he : P.underlying e = some (.int .u8)) : Snd3 P o (.strb e x) := by
  intro ρ S K h
  simp only [heavyR, strbC] at h
  simp only [execOp, ho]
  split at h
  · rename_i str es
    rw [es]
    refine wpH_bind' _ _ ?_
    unfold convert
    refine wpH_rd (readv_underlying hs) ?_
    refine wpH_rd (readv_underlying hd) ?_
    simp only
    refine wpH_rd (readv_underlying he) ?_
    simp only
    unfold Conv.stringToBytes
    refine wpH_bind' _ _ ?_
    show if (Question.appendCap str.size 0 e).forced = true then _ else _
    rw [if_neg (by simp [Question.forced])]
    intro tt
    have hcut : str.size ≤ Question.cut (.appendCap str.size 0 e) tt := by simp only [Question.cut]; omega
    show wpH P _ S _
    generalize Question.cut (.appendCap str.size 0 e) tt = nc at hcut
    refine wpH_bind' _ _ ?_
    intro r hr
    have hk := h nc hcut r hr
    have e1 : (str.data.map fun b => Value.int .u8 b.toNat) ++ Array.replicate (nc - str.size) (Value.int .u8 0) = (byteCells str.data.toList ++ List.replicate (nc - str.size) (Value.int .u8 0)).toArray := by
      apply Array.ext'
      simp [byteCells]
    rw [e1]
    refine wpH_bind' _ _ ?_
    unfold markStringish
    refine wpH_bind' _ _ ?_
    refine ⟨_, set_same _, ?_⟩
    have hsz : (byteCells str.data.toList ++ List.replicate (nc - str.size) (Value.int .u8 0)).length = nc := by simp [byteCells]; omega
    simp only [oshape, List.size_toArray, hsz]
    refine ⟨_, set_same _, ?_⟩
    have e2 : ∀ (x y : Obj), (S.set r x).set r y = S.set r y := by
      intro x y
      funext m
      unfold Hp.set
      split <;> rfl
    simp only [ofreeze]
    rw [e2]
    exact hk
  · exact h.elim
end
end Go.PH
