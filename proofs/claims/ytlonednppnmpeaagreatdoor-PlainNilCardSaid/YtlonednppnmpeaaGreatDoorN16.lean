/- PH: a part of the walk: contracts of functions that the law reaches. -/
import Derived.Test.YtlonednppnmpeaaGreatDoorRows
import Derived.ProofKit
import Derived.OpenShut
import Derived.LaidMore
import Derived.Lay
import Derived.Carry
import Derived.Stop.Joined
import Derived.Test.YtlonednppnmpeaaGreatDoorFactA
import Derived.Test.YtlonednppnmpeaaGreatDoorN15
set_option linter.all false
/- PROVED HERE: what the row of courant/courantlaw26.PlainNil asks of a call: from the readings of the arguments to the walk, and back to the readings behind it. CONDITIONS: those of the row alone. -/
namespace Go.Proofs.YtlonednppnmpeaaGreatDoor
namespace plainNil
open Go Go.PH Go.ChangeShapes Go.WideShapes Go.ChangeAt Go.RowKit

theorem own : ownKnob Tryz.prog.godebug = none := by kernel_rfl
theorem laidOut : laidOutB Tryz.prog = true := k1
theorem cells25 : Tryz.prog.cellsOf 25 = 11 := by kernel_rfl
theorem cells27 : Tryz.prog.cellsOf 27 = 5 := by kernel_rfl
theorem cells3 : Tryz.prog.cellsOf 3 = 1 := by kernel_rfl
theorem cells9 : Tryz.prog.cellsOf 9 = 1 := by kernel_rfl
theorem cells22 : Tryz.prog.cellsOf 22 = 1 := by kernel_rfl
theorem cells23 : Tryz.prog.cellsOf 23 = 1 := by kernel_rfl

theorem array5 {α : Type} {cs : Array α} (h : cs.size = 5) : ∃ c0 c1 c2 c3 c4, cs = #[c0, c1, c2, c3, c4] := by
  obtain ⟨l⟩ := cs
  match l, h with
  | [c0, c1, c2, c3, c4], _ => exact ⟨c0, c1, c2, c3, c4, rfl⟩
theorem array11 {α : Type} {cs : Array α} (h : cs.size = 11) : ∃ c0 c1 c2 c3 c4 c5 c6 c7 c8 c9 c10, cs = #[c0, c1, c2, c3, c4, c5, c6, c7, c8, c9, c10] := by
  obtain ⟨l⟩ := cs
  match l, h with
  | [c0, c1, c2, c3, c4, c5, c6, c7, c8, c9, c10], _ => exact ⟨c0, c1, c2, c3, c4, c5, c6, c7, c8, c9, c10, rfl⟩

section
variable {H : Type} {enc : TypeId × Value → H} {W : World} {base b0 : Nat} {sp : Nat → Bool} {hd : Bool} {v : Value} {d : DataW H} {p : List MemPlace}

theorem one_int {t : TypeId} {k : IntKind} {n : Nat} {c : Value} {o : Option (DataW H × List MemPlace)} (ht : Tryz.prog.underlying t = some (.int k)) (h : DataW.trod enc Tryz.prog W base sp hd n t [c] = o) (ho : o.isSome = true) : ∃ z, c = .int k z ∧ (Lit.int k z).wf = true := by
  obtain ⟨x, rfl⟩ := Option.isSome_iff_exists.1 ho
  obtain ⟨z, e, _, w⟩ := DataW.trod_int ht h
  simp only [List.cons.injEq, and_true] at e
  exact ⟨z, e, w⟩
theorem one_str {t : TypeId} {n : Nat} {c : Value} {o : Option (DataW H × List MemPlace)} (ht : Tryz.prog.underlying t = some .string) (h : DataW.trod enc Tryz.prog W base sp hd n t [c] = o) (ho : o.isSome = true) : ∃ s, c = .string s := by
  obtain ⟨x, rfl⟩ := Option.isSome_iff_exists.1 ho
  obtain ⟨s, e, _, _⟩ := DataW.trod_string ht h
  simp only [List.cons.injEq, and_true] at e
  exact ⟨s, e⟩

set_option maxRecDepth 100000 in
theorem req_form (hv : Value.okWide Tryz.prog W .any b0 25 v) (h : DataW.Trod enc Tryz.prog W base sp hd 25 v d p) :
    ∃ (k : Int) (s1 s2 s3 : ByteArray) (i1 i2 u1 u2 u3 i3 : Int) (a : Option Addr) (n c : Nat), v = .agg (reqC k s1 s2 s3 i1 i2 u1 u2 u3 i3 a n c) := by
  obtain ⟨cs, rfl, hsz⟩ := okWide_struct Tryz.underlying25 hv
  obtain ⟨c0, c1, c2, c3, c4, c5, c6, c7, c8, c9, c10, rfl⟩ := array11 (hsz.trans cells25)
  obtain ⟨fuel, hf⟩ := h
  obtain ⟨xs, n, _, _, _, hlen, hf⟩ := DataW.trod_struct Tryz.underlying25 hf
  have hx : ∀ i, i < 11 → (xs[i]?).isSome = true := fun i hi => by
    rw [List.getElem?_eq_getElem (by rw [hlen]; exact hi)]; rfl
  obtain ⟨k, rfl, _⟩ := one_int Tryz.underlying3 (by simpa [Value.cells, cells3] using hf 0 _ rfl) (hx 0 (by decide))
  obtain ⟨s1, rfl⟩ := one_str Tryz.underlying9 (by simpa [Value.cells, cells9] using hf 1 _ rfl) (hx 1 (by decide))
  obtain ⟨s2, rfl⟩ := one_str Tryz.underlying9 (by simpa [Value.cells, cells9] using hf 2 _ rfl) (hx 2 (by decide))
  obtain ⟨s3, rfl⟩ := one_str Tryz.underlying9 (by simpa [Value.cells, cells9] using hf 3 _ rfl) (hx 3 (by decide))
  obtain ⟨i1, rfl, _⟩ := one_int Tryz.underlying3 (by simpa [Value.cells, cells3] using hf 4 _ rfl) (hx 4 (by decide))
  obtain ⟨i2, rfl, _⟩ := one_int Tryz.underlying3 (by simpa [Value.cells, cells3] using hf 5 _ rfl) (hx 5 (by decide))
  obtain ⟨u1, rfl, _⟩ := one_int Tryz.underlying22 (by simpa [Value.cells, cells22] using hf 6 _ rfl) (hx 6 (by decide))
  obtain ⟨u2, rfl, _⟩ := one_int Tryz.underlying22 (by simpa [Value.cells, cells22] using hf 7 _ rfl) (hx 7 (by decide))
  obtain ⟨u3, rfl, _⟩ := one_int Tryz.underlying22 (by simpa [Value.cells, cells22] using hf 8 _ rfl) (hx 8 (by decide))
  obtain ⟨i3, rfl, _⟩ := one_int Tryz.underlying3 (by simpa [Value.cells, cells3] using hf 9 _ rfl) (hx 9 (by decide))
  have h10 : DataW.trod enc Tryz.prog W base sp hd n 23 [c10] = xs[10]? := by simpa [Value.cells, cells23] using hf 10 _ rfl
  obtain ⟨y, hy⟩ := Option.isSome_iff_exists.1 (hx 10 (by decide))
  rw [hy] at h10
  rcases DataW.trod_slice Tryz.underlying23 h10 with ⟨e, _⟩ | ⟨a, len, cap, _, _, _, _, e, _⟩
  · simp only [List.cons.injEq, and_true] at e
    subst e
    exact ⟨k, s1, s2, s3, i1, i2, u1, u2, u3, i3, none, 0, 0, rfl⟩
  · simp only [List.cons.injEq, and_true] at e
    subst e
    exact ⟨k, s1, s2, s3, i1, i2, u1, u2, u3, i3, some a, len, cap, rfl⟩

theorem cellTypes27 : Tryz.prog.cellTypes Tryz.prog.depth 27 = some [22, 22, 22, 3, 23] := by kernel_rfl
theorem cellsAt_of {S : Hp} {a : Addr} : ∀ {l : List Value} {i : Nat}, (∀ j u, l[j]? = some u → S.cell? (a.add (i + j)) = some u) → CellsAt S a i l := by
  intro l
  induction l with
  | nil => intro i _; trivial
  | cons u l ih =>
    intro i h
    refine ⟨h 0 u rfl, ih fun j w hj => ?_⟩
    rw [show i + 1 + j = i + (j + 1) by omega]
    exact h (j + 1) w hj
/-- The whole heap. -/
def all (W : World) : Hp := fun n => W.heap[n]?
theorem all_in (W : World) : (all W).In W := fun _ _ h => h
theorem all_cell {a : Addr} {u : Value} (h : W.cell? a = some u) : (all W).cell? a = some u := by
  unfold World.cell? at h
  unfold Hp.cell? all
  split at h
  · rename_i c t f e
    rw [e]
    exact h
  · cases h

set_option maxRecDepth 100000 in
theorem msg_form (hv : Value.okWide Tryz.prog W .any b0 27 v) (h : DataW.Trod enc Tryz.prog W 0 (fun _ => true) hd 27 v d p) :
    ∃ (o q s : Nat) (w : Int) (a : Option Addr) (n c : Nat) (l : List UInt8), v = msgV o q s w a n c ∧ q < 18446744073709551616 ∧ s < 18446744073709551616 ∧ -9223372036854775808 ≤ w ∧ w < 9223372036854775808 ∧ n = l.length ∧
      SlAt (all W) (.slice a n c) n (byteCells l) := by
  have hv2 := hv
  simp only [Value.okWide, Tryz.underlying27] at hv2
  obtain ⟨cs, rfl, hsz, ts, hts, _, hcell⟩ := hv2
  obtain rfl := Option.some.inj (cellTypes27.symm.trans hts)
  obtain ⟨c0, c1, c2, c3, c4, rfl⟩ := array5 (hsz.trans cells27)
  have hok : Cell.okWide Tryz.prog W .any b0 23 c4 := by
    obtain ⟨u, hu, hc⟩ := hcell 4 c4 rfl
    obtain rfl : (23 : Nat) = u := Option.some.inj hu
    exact hc
  obtain ⟨fuel, hf⟩ := h
  obtain ⟨xs, n, _, _, _, hlen, hf⟩ := DataW.trod_struct Tryz.underlying27 hf
  have hx : ∀ i, i < 5 → (xs[i]?).isSome = true := fun i hi => by
    rw [List.getElem?_eq_getElem (by rw [hlen]; exact hi)]; rfl
  obtain ⟨o, rfl, wo⟩ := one_int Tryz.underlying22 (by simpa [Value.cells, cells22] using hf 0 _ rfl) (hx 0 (by decide))
  obtain ⟨q, rfl, wq⟩ := one_int Tryz.underlying22 (by simpa [Value.cells, cells22] using hf 1 _ rfl) (hx 1 (by decide))
  obtain ⟨s, rfl, ws⟩ := one_int Tryz.underlying22 (by simpa [Value.cells, cells22] using hf 2 _ rfl) (hx 2 (by decide))
  obtain ⟨w, rfl, ww⟩ := one_int Tryz.underlying3 (by simpa [Value.cells, cells3] using hf 3 _ rfl) (hx 3 (by decide))
  have h4 : DataW.trod enc Tryz.prog W 0 (fun _ => true) hd n 23 [c4] = xs[4]? := by simpa [Value.cells, cells23] using hf 4 _ rfl
  obtain ⟨y, hy⟩ := Option.isSome_iff_exists.1 (hx 4 (by decide))
  rw [hy] at h4
  simp only [Lit.wf, Bool.and_eq_true, decide_eq_true_eq] at wo wq ws ww
  have wo' : 0 ≤ o := wo.1
  have wq' : 0 ≤ q ∧ q ≤ 18446744073709551615 := ⟨wq.1, wq.2⟩
  have ws' : 0 ≤ s ∧ s ≤ 18446744073709551615 := ⟨ws.1, ws.2⟩
  have ww' : -9223372036854775808 ≤ w ∧ w ≤ 9223372036854775807 := ⟨ww.1, ww.2⟩
  obtain ⟨o, rfl⟩ := Int.eq_ofNat_of_zero_le wo'
  obtain ⟨q, rfl⟩ := Int.eq_ofNat_of_zero_le wq'.1
  obtain ⟨s, rfl⟩ := Int.eq_ofNat_of_zero_le ws'.1
  have c8 : Tryz.prog.cellsOf 5 = 1 := by kernel_rfl
  rcases open_ints Tryz.underlying23 Tryz.underlying5 c8 h4 with ⟨e, _⟩ | ⟨a, len, cap, zs, e, _, hl, _, hzl, _, hz, hw⟩
  · simp only [List.cons.injEq, and_true] at e
    subst e
    exact ⟨o, q, s, w, none, 0, 0, [], rfl, by omega, by omega, ww'.1, by omega, rfl, ⟨none, 0, rfl, Nat.le_refl _, fun _ => ⟨rfl, rfl⟩, fun p hp => by cases hp⟩⟩
  · simp only [List.cons.injEq, and_true] at e
    subst e
    have hsp : a.spot = none := by
      simp only [Cell.okWide, Cell.ok, Tryz.underlying23] at hok
      exact hok.2.2.2.1
    simp only [if_true] at hzl
    refine ⟨o, q, s, w, some a, len, cap, (zs.take len).map fun z => UInt8.ofNat z.toNat, rfl, by omega, by omega, ww'.1, by omega, by simp; omega, a, cap, rfl, hl, fun h => (by cases h), fun p hp => ?_⟩
    cases hp
    refine ⟨hsp, cellsAt_of fun j u hj => ?_⟩
    simp only [byteCells, List.map_map, List.getElem?_map, Option.map_eq_some_iff] at hj
    obtain ⟨z, hz1, rfl⟩ := hj
    have hj : j < len := by
      have := (List.getElem?_eq_some_iff.1 hz1).1
      simp at this; omega
    have hz2 : zs[j]? = some z := by rw [List.getElem?_take] at hz1; rw [if_pos hj] at hz1; exact hz1
    have hmem : z ∈ zs := List.mem_of_getElem? hz2
    have wz := hw z hmem
    simp only [Lit.wf, Bool.and_eq_true, decide_eq_true_eq] at wz
    have wz' : 0 ≤ z ∧ z ≤ 255 := ⟨wz.1, wz.2⟩
    have hc := hz j (by omega)
    rw [List.getD_eq_getElem?_getD, hz2] at hc
    rw [Nat.zero_add]
    refine all_cell (hc.trans ?_)
    simp only [Function.comp, Option.getD_some, UInt8.toNat_ofNat']
    congr 2
    omega
end

set_option maxRecDepth 100000 in
theorem lifted (os : Os) (started : os.Started) (H : Type) (enc : TypeId × Value → H) :
    ReturnsInHanded {} Tryz.checked os 3 .any (fun w args => (Rows.plainNilSpec.pre enc Tryz.prog Tryz.f3 [] false w args ∧ laidMetH Tryz.prog Rows.plainNilRow.laid w) ∧ sizedMet enc Tryz.prog Tryz.f3 (OpenSpec.ofChange Rows.plainNilSpec) false w args)
      (Rows.plainNilSpec.post enc Tryz.prog Tryz.f3 false true false false) := by
  refine returnsInHanded_of_change_and (C := Tryz.checked) (X := fun w _ => laidMetH Tryz.prog Rows.plainNilRow.laid w) (fun _ _ _ hh h => h.of_heap hh) own started (by kernel_rfl) Tryz.func3
    (ChangeSpec.witness_shaped (enc := enc) (C := Tryz.checked) (os := os) (X := fun w _ => laidMetH Tryz.prog Rows.plainNilRow.laid w) false (World.laidAll Tryz.prog os Rows.plainNilRow.laid)
      #[.agg #[.int .i64 0, .string ⟨#[]⟩, .string ⟨#[]⟩, .string ⟨#[]⟩, .int .i64 0, .int .i64 0, .int .u64 0, .int .u64 0, .int .u64 0, .int .i64 0, .slice none 0 0], .agg #[.int .u64 0, .int .u64 0, .int .u64 0, .int .i64 0, .slice none 0 0]] 8 (World.laidAll_os _ _ _)
      (World.shaped_of_ZipB (by kernel_rfl) (by kernel_rfl)) (by kernel_rfl) (by kernel_rfl) (by kernel_rfl)
      (by rw [MakeChecks.laidMetH_plain _ _ _ (by kernel_rfl)]; exact laidMet_laidAll _ (by kernel_rfl) (by kernel_rfl))) ?_
  intro W base args ds gs before hval0 hW _ _ _ _
  have hval : ∀ (j : Nat) t v, Tryz.f3.params[j]? = some t → args[j]? = some v → Value.okWide Tryz.prog W .any base t v := hval0
  have hW' := hW
  obtain ⟨p, q, hA0, hV, rfl, _, _⟩ := hW
  have hA : DataW.TrodAll enc Tryz.prog W 0 (fun _ => true) true Tryz.f3.params.toList args.toList ds p := hA0
  rw [Tryz.params3] at hA hval
  obtain ⟨v0, v1, d0, d1, p0, p1, rfl, rfl, rfl, h0, h1⟩ := trodAll_two hA
  obtain ⟨rfl, rfl⟩ := trodVars_none hV
  simp only [List.append_nil] at hW'
  obtain ⟨k, s1, s2, s3, i1, i2, u1, u2, u3, i3, a, n, c, rfl⟩ := req_form (hval 0 25 v0 rfl rfl) h0
  obtain ⟨o, q, s, w, a2, n2, c2, l, rfl, hq, hs, hw1, hw2, hn, hsl⟩ := msg_form (hval 1 27 v1 rfl rfl) h1
  refine (plainNil_spec k s1 s2 s3 i1 i2 u1 u2 u3 i3 a n c o q s w a2 n2 c2 l (all W) hq hs hw1 hw2 hn hsl W (all_in W)).mono fun e W' ⟨v, S', he, ⟨hv, hle⟩, st⟩ => ?_
  subst he; subst hv
  have hb : Below W.heap.size W W' := ⟨st.os, st.tape, st.output, st.size, fun k hk => by
    have e : W.heap[k]? = some W.heap[k] := Array.getElem?_eq_getElem hk
    rw [e]
    exact st.inn _ _ (hle _ _ e)⟩
  have hlt : ∀ x ∈ p0 ++ p1, x.block < W.heap.size := fun x hx => by simpa using hW'.lt x hx
  refine ⟨_, rfl, _, _, _, [], p0 ++ p1, [], hW', ?_, ?_, ?_, hb.frame _, fun h => by cases h⟩
  · exact trodAll_mk1 (shut_bool Tryz.underlying4 true)
  · exact trodAll_mk2 (Below.trod laidOut (by kernel_rfl) (of_decide_eq_true (by kernel_rfl)) h0 hb fun x hx => hlt x (List.mem_append_left _ hx)) (Below.trod laidOut (by kernel_rfl) (of_decide_eq_true (by kernel_rfl)) h1 hb fun x hx => hlt x (List.mem_append_right _ hx))
  · exact rfl

end plainNil
end Go.Proofs.YtlonednppnmpeaaGreatDoor
