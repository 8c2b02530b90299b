/- PH: a part of the walk: contracts of functions that the law reaches. -/
import Derived.Test.YtlonednppnmpeaaGreatDoorSl
import Derived.Test.YtlonednppnmpeaaGreatDoorBytes
import Derived.Test.YtlonednppnmpeaaGreatDoorFn0
import Derived.Test.YtlonednppnmpeaaGreatDoorFn1
set_option linter.all false
set_option linter.unusedSimpArgs false
namespace Go.Proofs
open Go Go.PH
attribute [local congr] minC_c eqsC_c idxaC_c iapC_c slarrC_c lkC_c mkslC_c copyC_c msetC_c callvC_c xcallC_c appzC_c binC_c sopC_c shC_c beqC_c nileqC_c lenC_c capC_c negC_c notC_c cvtC_c runeC_c extC_c fldC_c maxC_c pickC_c idxC_c slstrC_c slslC_c faC_c iaC_c nilC_c splC_c gd2_c lzK_c condC_c rsc_c rsca_c ldC_c ldaC_c ldbC_c ex2_c ld2_c loadsC_c st2_c stC_c callC_c appC_c kont_c sC_c regC_c upd_c lzK_ca
theorem mixed : Tryz.prog.follows .mixedOrders = true := by kernel_rfl
def okAt (s : ByteArray) (i : Int) : Bool := (decide (97 ≤ bt s i) && decide (bt s i ≤ 122)) || (decide (65 ≤ bt s i) && decide (bt s i ≤ 90)) || bt s i == 95 || (decide (0 < i) && decide (48 ≤ bt s i) && decide (bt s i ≤ 57))
def simpleB (s : ByteArray) : Bool := (List.range s.size).all (fun i => okAt s i) && decide (0 < s.size) && decide (s.size ≤ 100)
theorem simpleB_false {s : ByteArray} {i : Nat} (hi : i < s.size) (h : okAt s i = false) : simpleB s = false := by
  unfold simpleB
  have : (List.range s.size).all (fun i => okAt s i) = false := by
    rw [List.all_eq_false]; exact ⟨i, List.mem_range.2 hi, by simp [h]⟩
  simp [this]
theorem simpleB_true {s : ByteArray} (h : ∀ j : Nat, j < s.size → okAt s j = true) : simpleB s = (decide (0 < s.size) && decide (s.size ≤ 100)) := by
  unfold simpleB
  have : (List.range s.size).all (fun i => okAt s i) = true := by
    rw [List.all_eq_true]; exact fun i hi => h i (List.mem_range.1 hi)
  simp [this]
set_option maxRecDepth 100000 in
theorem simple_spec (s : ByteArray) (S : Hp) (hs : s.size ≤ 1000000) : callWp Tryz.prog 89 #[.string s] S (fun v S' => v = .bool (simpleB s) ∧ S' = S) := by
  refine call_fn (args := [.string s]) 47 mixed Tryz.func89 c89_ok rfl ?_
  unfold c89
  simp +contextual (maxSteps := 2000000) only [Int.le_refl, Int.reduceEq, Int.reduceNe, Int.reduceBEq, Int.reduceBNe, Int.reduceLT, Int.reduceLE, Int.reduceGT, Int.reduceGE, Int.reduceAdd, Int.reduceSub, Int.reduceNeg, Nat.reduceSub, Nat.reduceMul, Nat.reduceBEq, Bool.false_or, Bool.true_or, decide_false, Int.cast_ofNat_Int, Int.natCast_zero, Int.toNat_natCast, Int.reduceToNat, AA, AB, AC, AD, AE, AF, AG, AH, AI, AJ, AK, AL, AM, AN, AO, AP, AQ, AR, AS, AT, AU, AV, AW, AX, AY, AZ, BA, BB, BC, BD, BE, BF, BG, BH, BI, BJ, BK, BL, BM, BN, BO, BP, BQ, BR, BS, BT, BU, BV, BW, BX, BY, BZ, CA, CB, CC, CD, CE, CF, CG, CH, CI, CJ, CL, CM, CN, CO, CP, CQ, CR, CS, CT, CU, CV, CW, CX, CY, CZ, DA, DB, DC, DD, DE, DF, DG, DH, DI, DJ, DK, DL, DM, DN, DO, DP, DQ, DR, DS, DT, DU, DV, DW, DX, DY, DZ, EA, EB, EC, ED, EE, EF, EG, EH, EI, EJ, EK, EL, EM, EN, EO, EP, EQ, ER, ES, ET, EU, EV, EW, EX, EY, EZ, FA, FB, FD, FE, FF, FG, FH, FI, FJ, FK, FL, FM, FN, FO, FP, FQ, FR, FS, FT, FU, FV, FW, FX, FY, FZ, GA, GB, GC, GD, GE, GF, GG, GH, GI, GJ, GK, GM, GN, GO, GP, GQ, GR, GS, GT, GU, GV, GW, GX, GY, List.zip_cons_cons, List.zip_nil_left, GZ, HA, HB, HC, HD, false_and, and_false, HE, HF, HG, HH, HI, HJ, HK, HL, HM, HN, HO, HP, HQ, HR, HS, HT, HU, HV, HW, HX, HY, HZ, IA, IB, decide_true, IC, ID, IE, IF, IG, IH, II, IJ, IK, IL, IM, IN, IP, IQ, IR, Bool.true_and, Bool.and_true, Bool.false_and, Bool.and_false, IS, Bool.and_eq_true, Bool.not_eq_true', IT, IU, IV, IW, IX, IY, ne_eq, not_false_iff, not_false_eq_true, IZ, JA, JB, JC, JD, JE, JF, JG, JH, JI, JJ, JK, JL, JM, JN, JO, JP, JQ, JR, JS, JT, JU, JV, JW, JX, JY, JZ, KA, KC, KD, KE, KF, KG, KH, KI, KJ, KK, KL, KM, KN, KO, KP, KQ, KR, KT, KU, KV, KW, KX, KY, KZ, LA, LB, LC, LD, ZZ, LF, LG, LH, LI, LJ, LK, LL, LM, LN, LO, LP, LQ, LR, LS, ZY, LU, LV, LW, LX, LY, LZ, MA, MB, MC, MD, ME, MF, MG, MH, MI, MJ, List.all_cons, List.all_nil, List.size_toArray, List.length_cons, List.length_nil, List.toList_toArray, List.set_cons_zero, List.set_cons_succ, Nat.reduceLeDiff, Nat.zero_le, true_or, Nat.le_refl, List.getElem?_toArray, List.getElem?_cons_zero, List.getElem?_cons_succ, List.map_cons, List.map_nil, Option.map_some, Option.map_none, List.getD_cons_zero, List.getD_cons_succ, Nat.reduceEqDiff, if_true, if_false, Nat.reduceLT, Nat.reduceAdd, Nat.zero_add, true_and, and_true, MK, ML, MM, MN, MO, MP, MQ, MR, MS, MT, MU, MV, MW, reduceCtorEq, false_imp_iff, forall_const, Bool.true_eq_false, Bool.false_eq_true, imp_self, Bool.not_true, Bool.not_false, c89r0, c89r1, c89r2, c89r3, c89r4, c89r5, c89r6, c89r7, c89r8, c89r9, c89r10, c89r12, kont_eq]
  refine loop_i (fun (i : Nat) e S' => S' = S ∧ e 0 = .string s ∧ e 7 = .int .i64 i ∧ e 6 = .int .i64 s.size ∧ i ≤ s.size ∧ ∀ j : Nat, j < i → okAt s j = true) (fun i => s.size - i) 0 ⟨rfl, rfl, rfl, rfl, by omega, fun j hj => by omega⟩ ?_
  rintro i e S' ⟨rfl, e0, e7, e6, hi, hall⟩
  unfold c89l11
  have wi : IntKind.i64.wrap ((i : Int) + 1) = ((i + 1 : Nat) : Int) := by rw [w64] <;> omega
  have back : okAt s i = true → ∀ j : Nat, j < i + 1 → okAt s j = true := by
    intro hok j hj
    by_cases e : j = i
    · subst e; exact hok
    · exact hall j (by omega)
  repeat' first | (with_reducible refine And.intro (fun _ => ?_) (fun _ => ?_)) | (with_reducible refine And.intro ?_ ?_) | (with_reducible refine fun (_ : (_ : Bool) = _) => ?_) | (with_reducible refine fun (_ : _ ∧ _) => ?_) | (simp +contextual (maxSteps := 2000000) only [Int.le_refl, Int.reduceEq, Int.reduceNe, Int.reduceBEq, Int.reduceBNe, Int.reduceLT, Int.reduceLE, Int.reduceGT, Int.reduceGE, Int.reduceAdd, Int.reduceSub, Int.reduceNeg, Nat.reduceSub, Nat.reduceMul, Nat.reduceBEq, Bool.false_or, Bool.true_or, decide_false, Int.cast_ofNat_Int, Int.natCast_zero, Int.toNat_natCast, Int.reduceToNat, AA, AB, AC, AD, AE, AF, AG, AH, AI, AJ, AK, AL, AM, AN, AO, AP, AQ, AR, AS, AT, AU, AV, AW, AX, AY, AZ, BA, BB, BC, BD, BE, BF, BG, BH, BI, BJ, BK, BL, BM, BN, BO, BP, BQ, BR, BS, BT, BU, BV, BW, BX, BY, BZ, CA, CB, CC, CD, CE, CF, CG, CH, CI, CJ, CL, CM, CN, CO, CP, CQ, CR, CS, CT, CU, CV, CW, CX, CY, CZ, DA, DB, DC, DD, DE, DF, DG, DH, DI, DJ, DK, DL, DM, DN, DO, DP, DQ, DR, DS, DT, DU, DV, DW, DX, DY, DZ, EA, EB, EC, ED, EE, EF, EG, EH, EI, EJ, EK, EL, EM, EN, EO, EP, EQ, ER, ES, ET, EU, EV, EW, EX, EY, EZ, FA, FB, FD, FE, FF, FG, FH, FI, FJ, FK, FL, FM, FN, FO, FP, FQ, FR, FS, FT, FU, FV, FW, FX, FY, FZ, GA, GB, GC, GD, GE, GF, GG, GH, GI, GJ, GK, GM, GN, GO, GP, GQ, GR, GS, GT, GU, GV, GW, GX, GY, List.zip_cons_cons, List.zip_nil_left, GZ, HA, HB, HC, HD, false_and, and_false, HE, HF, HG, HH, HI, HJ, HK, HL, HM, HN, HO, HP, HQ, HR, HS, HT, HU, HV, HW, HX, HY, HZ, IA, IB, decide_true, IC, ID, IE, IF, IG, IH, II, IJ, IK, IL, IM, IN, IP, IQ, IR, Bool.true_and, Bool.and_true, Bool.false_and, Bool.and_false, IS, Bool.and_eq_true, Bool.not_eq_true', IT, IU, IV, IW, IX, IY, ne_eq, not_false_iff, not_false_eq_true, IZ, JA, JB, JC, JD, JE, JF, JG, JH, JI, JJ, JK, JL, JM, JN, JO, JP, JQ, JR, JS, JT, JU, JV, JW, JX, JY, JZ, KA, KC, KD, KE, KF, KG, KH, KI, KJ, KK, KL, KM, KN, KO, KP, KQ, KR, KT, KU, KV, KW, KX, KY, KZ, LA, LB, LC, LD, ZZ, LF, LG, LH, LI, LJ, LK, LL, LM, LN, LO, LP, LQ, LR, LS, ZY, LU, LV, LW, LX, LY, LZ, MA, MB, MC, MD, ME, MF, MG, MH, MI, MJ, List.all_cons, List.all_nil, List.size_toArray, List.length_cons, List.length_nil, List.toList_toArray, List.set_cons_zero, List.set_cons_succ, Nat.reduceLeDiff, Nat.zero_le, true_or, Nat.le_refl, List.getElem?_toArray, List.getElem?_cons_zero, List.getElem?_cons_succ, List.map_cons, List.map_nil, Option.map_some, Option.map_none, List.getD_cons_zero, List.getD_cons_succ, Nat.reduceEqDiff, if_true, if_false, Nat.reduceLT, Nat.reduceAdd, Nat.zero_add, true_and, and_true, MK, ML, MM, MN, MO, MP, MQ, MR, MS, MT, MU, MV, MW, reduceCtorEq, false_imp_iff, forall_const, Bool.true_eq_false, Bool.false_eq_true, imp_self, Bool.not_true, Bool.not_false, c89r0, c89r1, c89r2, c89r3, c89r4, c89r5, c89r6, c89r7, c89r8, c89r9, c89r10, c89r12, e7, e6, e0, wi]) | (with_reducible rw [kont_eq]) | (simp +contextual only [pick_gen])
  all_goals simp only [Bool.and_eq_true, Bool.or_eq_true, Bool.and_eq_false_iff, Bool.or_eq_false_iff, Bool.not_eq_true', Bool.not_eq_false', decide_eq_true_eq, decide_eq_false_iff_not, beq_iff_eq, beq_eq_false_iff_ne, bne_iff_ne, bne_eq_false_iff_eq, ge_iff_le, gt_iff_lt, Int.not_lt, Int.not_le, ne_eq] at *
  all_goals first
    | omega
    | exact ⟨i + 1, by omega, rfl, by omega, back (by unfold okAt; simp; omega)⟩
    | exact ⟨_, Hp.le_refl _, by rw [simpleB_false (i := i) (by omega) (by unfold okAt; simp; omega)], rfl⟩
    | (obtain rfl : i = s.size := by omega
       exact ⟨_, Hp.le_refl _, by rw [simpleB_true hall]; congr 1; rw [Bool.eq_iff_iff]; simp; omega, rfl⟩)
end Go.Proofs
