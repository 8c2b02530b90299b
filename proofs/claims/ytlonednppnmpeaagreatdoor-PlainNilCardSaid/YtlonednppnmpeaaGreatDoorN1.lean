/- PH: a part of the walk: contracts of functions that the law reaches. -/
import Derived.Test.YtlonednppnmpeaaGreatDoorT2
set_option linter.all false
set_option linter.unusedSimpArgs false
namespace Go.Proofs
open Go Go.PH
attribute [local congr] minC_c eqsC_c idxaC_c iapC_c slarrC_c lkC_c mkslC_c copyC_c msetC_c callvC_c xcallC_c appzC_c binC_c sopC_c shC_c beqC_c nileqC_c lenC_c capC_c negC_c notC_c cvtC_c runeC_c extC_c fldC_c maxC_c pickC_c idxC_c slstrC_c slslC_c faC_c iaC_c nilC_c splC_c gd2_c lzK_c condC_c rsc_c rsca_c ldC_c ldaC_c ldbC_c ex2_c ld2_c loadsC_c st2_c stC_c callC_c appC_c kont_c sC_c regC_c upd_c lzK_ca
/-- The first place from i on where a byte stands; the length, if it stands nowhere. -/
def nextB (s : ByteArray) (c : Int) (i : Nat) : Nat := if h : i < s.size ∧ ¬ bt s i = c then nextB s c (i + 1) else i
termination_by s.size - i
theorem nextB_spec (s : ByteArray) (c : Int) (i : Nat) (hi : i ≤ s.size) : i ≤ nextB s c i ∧ nextB s c i ≤ s.size ∧ (∀ j : Nat, i ≤ j → j < nextB s c i → ¬ bt s j = c) ∧ (nextB s c i < s.size → bt s (nextB s c i) = c) := by
  fun_induction nextB s c i with
  | case1 i hc ih =>
    obtain ⟨h1, h2, h3, h4⟩ := ih (by omega)
    refine ⟨by omega, h2, fun j hj hlt => ?_, h4⟩
    by_cases e : j = i
    · subst e; exact hc.2
    · exact h3 j (by omega) hlt
  | case2 i hc =>
    refine ⟨Nat.le_refl _, hi, fun j h1 h2 => by omega, fun h => ?_⟩
    exact Classical.not_not.1 fun hn => hc ⟨h, hn⟩
def idxB (s : ByteArray) (c : Int) : Int := if nextB s c 0 < s.size then nextB s c 0 else -1
theorem byte_beq (s : ByteArray) (i k : Nat) (hi : i < s.size) (hk : k < 256) : (s[i]! == k.toUInt8) = decide (bt s (i : Int) = (k : Int)) := by
  rw [bt_nat s i hi, getElem!_pos s i hi, Bool.eq_iff_iff, beq_iff_eq, decide_eq_true_eq]
  have e : (k.toUInt8).toNat = k := by simp [Nat.mod_eq_of_lt hk]
  constructor
  · intro h; rw [h, e]
  · intro h
    apply UInt8.toNat_inj.1
    rw [e]; omega
theorem find_byte (s : ByteArray) (k : Nat) (hk : k < 256) : (match (List.range s.size).find? fun i => s[i]! == k.toUInt8 with
    | some i => (i : Int)
    | none => -1) = idxB s k := by
  obtain ⟨h1, h2, h3, h4⟩ := nextB_spec s k 0 (Nat.zero_le _)
  unfold idxB
  by_cases hlt : nextB s k 0 < s.size
  · rw [if_pos hlt]
    have : (List.range s.size).find? (fun i => s[i]! == k.toUInt8) = some (nextB s k 0) := by
      rw [List.find?_range_eq_some]
      refine ⟨by rw [byte_beq _ _ _ hlt hk]; simpa using h4 hlt, List.mem_range.2 hlt, fun j hj => ?_⟩
      rw [byte_beq _ _ _ (by omega) hk]
      simpa using h3 j (Nat.zero_le _) hj
    rw [this]
  · rw [if_neg hlt]
    have : (List.range s.size).find? (fun i => s[i]! == k.toUInt8) = none := by
      rw [List.find?_eq_none]
      intro i hi
      have hi := List.mem_range.1 hi
      rw [byte_beq _ _ _ hi hk]
      simpa using h3 i (Nat.zero_le _) (by omega)
    rw [this]
set_option maxRecDepth 100000 in
theorem indexByte_spec (s : ByteArray) (k : Nat) (hk : k < 256) (S : Hp) : callWp Tryz.prog 221 #[.string s, .int .u8 k] S (fun v S' => v = .int .i64 (idxB s k) ∧ S' = S) := by
  refine call_fn (args := [_, _]) 8 mixed Tryz.func221 c221_ok rfl ?_
  unfold c221
  repeat' first | (with_reducible refine And.intro (fun _ => ?_) (fun _ => ?_)) | (with_reducible refine And.intro ?_ ?_) | (with_reducible refine fun (_ : (_ : Bool) = _) => ?_) | (with_reducible refine fun (_ : _ ∧ _) => ?_) | (simp +contextual (maxSteps := 2000000) only [Int.le_refl, Int.reduceEq, Int.reduceNe, Int.reduceBEq, Int.reduceBNe, Int.reduceLT, Int.reduceLE, Int.reduceGT, Int.reduceGE, Int.reduceAdd, Int.reduceSub, Int.reduceNeg, Nat.reduceSub, Nat.reduceMul, Nat.reduceBEq, Bool.false_or, Bool.true_or, decide_false, Int.cast_ofNat_Int, Int.natCast_zero, Int.toNat_natCast, Int.reduceToNat, AA, AB, AC, AD, AE, AF, AG, AH, AI, AJ, AK, AL, AM, AN, AO, AP, AQ, AR, AS, AT, AU, AV, AW, AX, AY, AZ, BA, BB, BC, BD, BE, BF, BG, BH, BI, BJ, BK, BL, BM, BN, BO, BP, BQ, BR, BS, BT, BU, BV, BW, BX, BY, BZ, CA, CB, CC, CD, CE, CF, CG, CH, CI, CJ, CL, CM, CN, CO, CP, CQ, CR, CS, CT, CU, CV, CW, CX, CY, CZ, DA, DB, DC, DD, DE, DF, DG, DH, DI, DJ, DK, DL, DM, DN, DO, DP, DQ, DR, DS, DT, DU, DV, DW, DX, DY, DZ, EA, EB, EC, ED, EE, EF, EG, EH, EI, EJ, EK, EL, EM, EN, EO, EP, EQ, ER, ES, ET, EU, EV, EW, EX, EY, EZ, FA, FB, FD, FE, FF, FG, FH, FI, FJ, FK, FL, FM, FN, FO, FP, FQ, FR, FS, FT, FU, FV, FW, FX, FY, FZ, GA, GB, GC, GD, GE, GF, GG, GH, GI, GJ, GK, GM, GN, GO, GP, GQ, GR, GS, GT, GU, GV, GW, GX, GY, List.zip_cons_cons, List.zip_nil_left, GZ, HA, HB, HC, HD, false_and, and_false, HE, HF, HG, HH, HI, HJ, HK, HL, HM, HN, HO, HP, HQ, HR, HS, HT, HU, HV, HW, HX, HY, HZ, IA, IB, decide_true, IC, ID, IE, IF, IG, IH, II, IJ, IK, IL, IM, IN, IP, IQ, IR, Bool.true_and, Bool.and_true, Bool.false_and, Bool.and_false, IS, Bool.and_eq_true, Bool.not_eq_true', IT, IU, IV, IW, IX, IY, ne_eq, not_false_iff, not_false_eq_true, IZ, JA, JB, JC, JD, JE, JF, JG, JH, JI, JJ, JK, JL, JM, JN, JO, JP, JQ, JR, JS, JT, JU, JV, JW, JX, JY, JZ, KA, KC, KD, KE, KF, KG, KH, KI, KJ, KK, KL, KM, KN, KO, KP, KQ, KR, KT, KU, KV, KW, KX, KY, KZ, LA, LB, LC, LD, ZZ, LF, LG, LH, LI, LJ, LK, LL, LM, LN, LO, LP, LQ, LR, LS, ZY, LU, LV, LW, LX, LY, LZ, MA, MB, MC, MD, ME, MF, MG, MH, MI, MJ, List.all_cons, List.all_nil, List.size_toArray, List.length_cons, List.length_nil, List.toList_toArray, List.set_cons_zero, List.set_cons_succ, Nat.reduceLeDiff, Nat.zero_le, true_or, Nat.le_refl, List.getElem?_toArray, List.getElem?_cons_zero, List.getElem?_cons_succ, List.map_cons, List.map_nil, Option.map_some, Option.map_none, List.getD_cons_zero, List.getD_cons_succ, Nat.reduceEqDiff, if_true, if_false, Nat.reduceLT, Nat.reduceAdd, Nat.zero_add, true_and, and_true, MK, ML, MM, MN, MO, MP, MQ, MR, MS, MT, MU, MV, MW, reduceCtorEq, false_imp_iff, forall_const, Bool.true_eq_false, Bool.false_eq_true, imp_self, Bool.not_true, Bool.not_false, c221r0, c221r1]) | (with_reducible rw [kont_eq]) | (simp +contextual only [pick_gen])
  refine xcall_det Tryz.func269 (by kernel_rfl) (by kernel_rfl) (by kernel_rfl) (e := Extern.BytealgIndexByte.indexByte) (by kernel_rfl) (v0 := .int .i64 (idxB s k)) (S2 := S) ?_ ty_int ?_
  · unfold Extern.BytealgIndexByte.indexByte Extern.Bytes.bytesOf Extern.Bytes.asByte
    show wpH Tryz.prog (match (List.range s.size).find? fun i => s[i]! == ((k : Int).toNat.toUInt8) with | some i => pure (goInt i) | none => pure (goInt (-1))) S _
    rw [Int.toNat_natCast]
    have h := find_byte s k hk
    split
    · rename_i i e; rw [e] at h; refine ⟨?_, rfl⟩; rw [← h]; rfl
    · rename_i e; rw [e] at h; refine ⟨?_, rfl⟩; rw [← h]; rfl
  repeat' first | (with_reducible refine And.intro (fun _ => ?_) (fun _ => ?_)) | (with_reducible refine And.intro ?_ ?_) | (with_reducible refine fun (_ : (_ : Bool) = _) => ?_) | (with_reducible refine fun (_ : _ ∧ _) => ?_) | (simp +contextual (maxSteps := 2000000) only [Int.le_refl, Int.reduceEq, Int.reduceNe, Int.reduceBEq, Int.reduceBNe, Int.reduceLT, Int.reduceLE, Int.reduceGT, Int.reduceGE, Int.reduceAdd, Int.reduceSub, Int.reduceNeg, Nat.reduceSub, Nat.reduceMul, Nat.reduceBEq, Bool.false_or, Bool.true_or, decide_false, Int.cast_ofNat_Int, Int.natCast_zero, Int.toNat_natCast, Int.reduceToNat, AA, AB, AC, AD, AE, AF, AG, AH, AI, AJ, AK, AL, AM, AN, AO, AP, AQ, AR, AS, AT, AU, AV, AW, AX, AY, AZ, BA, BB, BC, BD, BE, BF, BG, BH, BI, BJ, BK, BL, BM, BN, BO, BP, BQ, BR, BS, BT, BU, BV, BW, BX, BY, BZ, CA, CB, CC, CD, CE, CF, CG, CH, CI, CJ, CL, CM, CN, CO, CP, CQ, CR, CS, CT, CU, CV, CW, CX, CY, CZ, DA, DB, DC, DD, DE, DF, DG, DH, DI, DJ, DK, DL, DM, DN, DO, DP, DQ, DR, DS, DT, DU, DV, DW, DX, DY, DZ, EA, EB, EC, ED, EE, EF, EG, EH, EI, EJ, EK, EL, EM, EN, EO, EP, EQ, ER, ES, ET, EU, EV, EW, EX, EY, EZ, FA, FB, FD, FE, FF, FG, FH, FI, FJ, FK, FL, FM, FN, FO, FP, FQ, FR, FS, FT, FU, FV, FW, FX, FY, FZ, GA, GB, GC, GD, GE, GF, GG, GH, GI, GJ, GK, GM, GN, GO, GP, GQ, GR, GS, GT, GU, GV, GW, GX, GY, List.zip_cons_cons, List.zip_nil_left, GZ, HA, HB, HC, HD, false_and, and_false, HE, HF, HG, HH, HI, HJ, HK, HL, HM, HN, HO, HP, HQ, HR, HS, HT, HU, HV, HW, HX, HY, HZ, IA, IB, decide_true, IC, ID, IE, IF, IG, IH, II, IJ, IK, IL, IM, IN, IP, IQ, IR, Bool.true_and, Bool.and_true, Bool.false_and, Bool.and_false, IS, Bool.and_eq_true, Bool.not_eq_true', IT, IU, IV, IW, IX, IY, ne_eq, not_false_iff, not_false_eq_true, IZ, JA, JB, JC, JD, JE, JF, JG, JH, JI, JJ, JK, JL, JM, JN, JO, JP, JQ, JR, JS, JT, JU, JV, JW, JX, JY, JZ, KA, KC, KD, KE, KF, KG, KH, KI, KJ, KK, KL, KM, KN, KO, KP, KQ, KR, KT, KU, KV, KW, KX, KY, KZ, LA, LB, LC, LD, ZZ, LF, LG, LH, LI, LJ, LK, LL, LM, LN, LO, LP, LQ, LR, LS, ZY, LU, LV, LW, LX, LY, LZ, MA, MB, MC, MD, ME, MF, MG, MH, MI, MJ, List.all_cons, List.all_nil, List.size_toArray, List.length_cons, List.length_nil, List.toList_toArray, List.set_cons_zero, List.set_cons_succ, Nat.reduceLeDiff, Nat.zero_le, true_or, Nat.le_refl, List.getElem?_toArray, List.getElem?_cons_zero, List.getElem?_cons_succ, List.map_cons, List.map_nil, Option.map_some, Option.map_none, List.getD_cons_zero, List.getD_cons_succ, Nat.reduceEqDiff, if_true, if_false, Nat.reduceLT, Nat.reduceAdd, Nat.zero_add, true_and, and_true, MK, ML, MM, MN, MO, MP, MQ, MR, MS, MT, MU, MV, MW, reduceCtorEq, false_imp_iff, forall_const, Bool.true_eq_false, Bool.false_eq_true, imp_self, Bool.not_true, Bool.not_false, c221r0, c221r1]) | (with_reducible rw [kont_eq]) | (simp +contextual only [pick_gen])
  first | exact ⟨_, Hp.le_refl _, rfl⟩ | exact ⟨_, Hp.le_refl _, rfl, rfl⟩ | exact ⟨_, Hp.le_refl _, rfl, rfl, rfl⟩
set_option maxRecDepth 100000 in
theorem sindex_spec (s : ByteArray) (k : Nat) (hk : k < 256) (S : Hp) : callWp Tryz.prog 185 #[.string s, .string ⟨#[k.toUInt8]⟩] S (fun v S' => v = .int .i64 (idxB s k) ∧ S' = S) := by
  refine call_fn (args := [_, _]) 143 mixed Tryz.func185 c185_ok rfl ?_
  unfold c185
  have h1 : (((⟨#[k.toUInt8]⟩ : ByteArray).size : Nat) : Int) = 1 := rfl
  have hb : bt ⟨#[k.toUInt8]⟩ 0 = (k : Int) := by
    show ((k.toUInt8).toNat : Int) = k
    simp [Nat.mod_eq_of_lt hk]
  repeat' first | (with_reducible refine And.intro (fun _ => ?_) (fun _ => ?_)) | (with_reducible refine And.intro ?_ ?_) | (with_reducible refine fun (_ : (_ : Bool) = _) => ?_) | (with_reducible refine fun (_ : _ ∧ _) => ?_) | (simp +contextual (maxSteps := 2000000) only [Int.le_refl, Int.reduceEq, Int.reduceNe, Int.reduceBEq, Int.reduceBNe, Int.reduceLT, Int.reduceLE, Int.reduceGT, Int.reduceGE, Int.reduceAdd, Int.reduceSub, Int.reduceNeg, Nat.reduceSub, Nat.reduceMul, Nat.reduceBEq, Bool.false_or, Bool.true_or, decide_false, Int.cast_ofNat_Int, Int.natCast_zero, Int.toNat_natCast, Int.reduceToNat, AA, AB, AC, AD, AE, AF, AG, AH, AI, AJ, AK, AL, AM, AN, AO, AP, AQ, AR, AS, AT, AU, AV, AW, AX, AY, AZ, BA, BB, BC, BD, BE, BF, BG, BH, BI, BJ, BK, BL, BM, BN, BO, BP, BQ, BR, BS, BT, BU, BV, BW, BX, BY, BZ, CA, CB, CC, CD, CE, CF, CG, CH, CI, CJ, CL, CM, CN, CO, CP, CQ, CR, CS, CT, CU, CV, CW, CX, CY, CZ, DA, DB, DC, DD, DE, DF, DG, DH, DI, DJ, DK, DL, DM, DN, DO, DP, DQ, DR, DS, DT, DU, DV, DW, DX, DY, DZ, EA, EB, EC, ED, EE, EF, EG, EH, EI, EJ, EK, EL, EM, EN, EO, EP, EQ, ER, ES, ET, EU, EV, EW, EX, EY, EZ, FA, FB, FD, FE, FF, FG, FH, FI, FJ, FK, FL, FM, FN, FO, FP, FQ, FR, FS, FT, FU, FV, FW, FX, FY, FZ, GA, GB, GC, GD, GE, GF, GG, GH, GI, GJ, GK, GM, GN, GO, GP, GQ, GR, GS, GT, GU, GV, GW, GX, GY, List.zip_cons_cons, List.zip_nil_left, GZ, HA, HB, HC, HD, false_and, and_false, HE, HF, HG, HH, HI, HJ, HK, HL, HM, HN, HO, HP, HQ, HR, HS, HT, HU, HV, HW, HX, HY, HZ, IA, IB, decide_true, IC, ID, IE, IF, IG, IH, II, IJ, IK, IL, IM, IN, IP, IQ, IR, Bool.true_and, Bool.and_true, Bool.false_and, Bool.and_false, IS, Bool.and_eq_true, Bool.not_eq_true', IT, IU, IV, IW, IX, IY, ne_eq, not_false_iff, not_false_eq_true, IZ, JA, JB, JC, JD, JE, JF, JG, JH, JI, JJ, JK, JL, JM, JN, JO, JP, JQ, JR, JS, JT, JU, JV, JW, JX, JY, JZ, KA, KC, KD, KE, KF, KG, KH, KI, KJ, KK, KL, KM, KN, KO, KP, KQ, KR, KT, KU, KV, KW, KX, KY, KZ, LA, LB, LC, LD, ZZ, LF, LG, LH, LI, LJ, LK, LL, LM, LN, LO, LP, LQ, LR, LS, ZY, LU, LV, LW, LX, LY, LZ, MA, MB, MC, MD, ME, MF, MG, MH, MI, MJ, List.all_cons, List.all_nil, List.size_toArray, List.length_cons, List.length_nil, List.toList_toArray, List.set_cons_zero, List.set_cons_succ, Nat.reduceLeDiff, Nat.zero_le, true_or, Nat.le_refl, List.getElem?_toArray, List.getElem?_cons_zero, List.getElem?_cons_succ, List.map_cons, List.map_nil, Option.map_some, Option.map_none, List.getD_cons_zero, List.getD_cons_succ, Nat.reduceEqDiff, if_true, if_false, Nat.reduceLT, Nat.reduceAdd, Nat.zero_add, true_and, and_true, MK, ML, MM, MN, MO, MP, MQ, MR, MS, MT, MU, MV, MW, reduceCtorEq, false_imp_iff, forall_const, Bool.true_eq_false, Bool.false_eq_true, imp_self, Bool.not_true, Bool.not_false, c185r0, c185r1, c185r2, c185r3, c185r4, c185r5, c185r6, c185r7, c185r8, c185r9, c185r10, c185r11, c185r12, c185r13, c185r14, c185r15, c185r16, c185r17, c185r18, c185r19, c185r20, c185r21, c185r22, c185r23, c185r24, c185r25, c185r26, c185r27, c185r28, c185r29, c185r30, c185r31, c185r32, c185r33, c185r34, c185r36, h1, hb]) | (with_reducible rw [kont_eq]) | (simp +contextual only [pick_gen])
  · rename_i he
    have he := strEq_iff.1 he
    subst he
    refine ⟨_, Hp.le_refl _, ?_, rfl⟩
    have e : nextB ⟨#[k.toUInt8]⟩ k 0 = 0 := by
      rw [nextB, dif_neg]
      rw [Int.natCast_zero, hb]
      simp
    unfold idxB
    rw [e, if_pos (show 0 < (⟨#[k.toUInt8]⟩ : ByteArray).size from Nat.zero_lt_one)]
    rfl
  · refine call_det (indexByte_spec s k hk S) ty_int ?_
    repeat' first | (with_reducible refine And.intro (fun _ => ?_) (fun _ => ?_)) | (with_reducible refine And.intro ?_ ?_) | (with_reducible refine fun (_ : (_ : Bool) = _) => ?_) | (with_reducible refine fun (_ : _ ∧ _) => ?_) | (simp +contextual (maxSteps := 2000000) only [Int.le_refl, Int.reduceEq, Int.reduceNe, Int.reduceBEq, Int.reduceBNe, Int.reduceLT, Int.reduceLE, Int.reduceGT, Int.reduceGE, Int.reduceAdd, Int.reduceSub, Int.reduceNeg, Nat.reduceSub, Nat.reduceMul, Nat.reduceBEq, Bool.false_or, Bool.true_or, decide_false, Int.cast_ofNat_Int, Int.natCast_zero, Int.toNat_natCast, Int.reduceToNat, AA, AB, AC, AD, AE, AF, AG, AH, AI, AJ, AK, AL, AM, AN, AO, AP, AQ, AR, AS, AT, AU, AV, AW, AX, AY, AZ, BA, BB, BC, BD, BE, BF, BG, BH, BI, BJ, BK, BL, BM, BN, BO, BP, BQ, BR, BS, BT, BU, BV, BW, BX, BY, BZ, CA, CB, CC, CD, CE, CF, CG, CH, CI, CJ, CL, CM, CN, CO, CP, CQ, CR, CS, CT, CU, CV, CW, CX, CY, CZ, DA, DB, DC, DD, DE, DF, DG, DH, DI, DJ, DK, DL, DM, DN, DO, DP, DQ, DR, DS, DT, DU, DV, DW, DX, DY, DZ, EA, EB, EC, ED, EE, EF, EG, EH, EI, EJ, EK, EL, EM, EN, EO, EP, EQ, ER, ES, ET, EU, EV, EW, EX, EY, EZ, FA, FB, FD, FE, FF, FG, FH, FI, FJ, FK, FL, FM, FN, FO, FP, FQ, FR, FS, FT, FU, FV, FW, FX, FY, FZ, GA, GB, GC, GD, GE, GF, GG, GH, GI, GJ, GK, GM, GN, GO, GP, GQ, GR, GS, GT, GU, GV, GW, GX, GY, List.zip_cons_cons, List.zip_nil_left, GZ, HA, HB, HC, HD, false_and, and_false, HE, HF, HG, HH, HI, HJ, HK, HL, HM, HN, HO, HP, HQ, HR, HS, HT, HU, HV, HW, HX, HY, HZ, IA, IB, decide_true, IC, ID, IE, IF, IG, IH, II, IJ, IK, IL, IM, IN, IP, IQ, IR, Bool.true_and, Bool.and_true, Bool.false_and, Bool.and_false, IS, Bool.and_eq_true, Bool.not_eq_true', IT, IU, IV, IW, IX, IY, ne_eq, not_false_iff, not_false_eq_true, IZ, JA, JB, JC, JD, JE, JF, JG, JH, JI, JJ, JK, JL, JM, JN, JO, JP, JQ, JR, JS, JT, JU, JV, JW, JX, JY, JZ, KA, KC, KD, KE, KF, KG, KH, KI, KJ, KK, KL, KM, KN, KO, KP, KQ, KR, KT, KU, KV, KW, KX, KY, KZ, LA, LB, LC, LD, ZZ, LF, LG, LH, LI, LJ, LK, LL, LM, LN, LO, LP, LQ, LR, LS, ZY, LU, LV, LW, LX, LY, LZ, MA, MB, MC, MD, ME, MF, MG, MH, MI, MJ, List.all_cons, List.all_nil, List.size_toArray, List.length_cons, List.length_nil, List.toList_toArray, List.set_cons_zero, List.set_cons_succ, Nat.reduceLeDiff, Nat.zero_le, true_or, Nat.le_refl, List.getElem?_toArray, List.getElem?_cons_zero, List.getElem?_cons_succ, List.map_cons, List.map_nil, Option.map_some, Option.map_none, List.getD_cons_zero, List.getD_cons_succ, Nat.reduceEqDiff, if_true, if_false, Nat.reduceLT, Nat.reduceAdd, Nat.zero_add, true_and, and_true, MK, ML, MM, MN, MO, MP, MQ, MR, MS, MT, MU, MV, MW, reduceCtorEq, false_imp_iff, forall_const, Bool.true_eq_false, Bool.false_eq_true, imp_self, Bool.not_true, Bool.not_false]) | (with_reducible rw [kont_eq]) | (simp +contextual only [pick_gen])
    first | exact ⟨_, Hp.le_refl _, rfl⟩ | exact ⟨_, Hp.le_refl _, rfl, rfl⟩ | exact ⟨_, Hp.le_refl _, rfl, rfl, rfl⟩
set_option maxRecDepth 100000 in
theorem index_spec (s : ByteArray) (k : Nat) (hk : k < 256) (S : Hp) : callWp Tryz.prog 157 #[.string s, .string ⟨#[k.toUInt8]⟩] S (fun v S' => v = .int .i64 (idxB s k) ∧ S' = S) := by
  refine call_fn (args := [_, _]) 8 mixed Tryz.func157 c157_ok rfl ?_
  unfold c157
  repeat' first | (with_reducible refine And.intro (fun _ => ?_) (fun _ => ?_)) | (with_reducible refine And.intro ?_ ?_) | (with_reducible refine fun (_ : (_ : Bool) = _) => ?_) | (with_reducible refine fun (_ : _ ∧ _) => ?_) | (simp +contextual (maxSteps := 2000000) only [Int.le_refl, Int.reduceEq, Int.reduceNe, Int.reduceBEq, Int.reduceBNe, Int.reduceLT, Int.reduceLE, Int.reduceGT, Int.reduceGE, Int.reduceAdd, Int.reduceSub, Int.reduceNeg, Nat.reduceSub, Nat.reduceMul, Nat.reduceBEq, Bool.false_or, Bool.true_or, decide_false, Int.cast_ofNat_Int, Int.natCast_zero, Int.toNat_natCast, Int.reduceToNat, AA, AB, AC, AD, AE, AF, AG, AH, AI, AJ, AK, AL, AM, AN, AO, AP, AQ, AR, AS, AT, AU, AV, AW, AX, AY, AZ, BA, BB, BC, BD, BE, BF, BG, BH, BI, BJ, BK, BL, BM, BN, BO, BP, BQ, BR, BS, BT, BU, BV, BW, BX, BY, BZ, CA, CB, CC, CD, CE, CF, CG, CH, CI, CJ, CL, CM, CN, CO, CP, CQ, CR, CS, CT, CU, CV, CW, CX, CY, CZ, DA, DB, DC, DD, DE, DF, DG, DH, DI, DJ, DK, DL, DM, DN, DO, DP, DQ, DR, DS, DT, DU, DV, DW, DX, DY, DZ, EA, EB, EC, ED, EE, EF, EG, EH, EI, EJ, EK, EL, EM, EN, EO, EP, EQ, ER, ES, ET, EU, EV, EW, EX, EY, EZ, FA, FB, FD, FE, FF, FG, FH, FI, FJ, FK, FL, FM, FN, FO, FP, FQ, FR, FS, FT, FU, FV, FW, FX, FY, FZ, GA, GB, GC, GD, GE, GF, GG, GH, GI, GJ, GK, GM, GN, GO, GP, GQ, GR, GS, GT, GU, GV, GW, GX, GY, List.zip_cons_cons, List.zip_nil_left, GZ, HA, HB, HC, HD, false_and, and_false, HE, HF, HG, HH, HI, HJ, HK, HL, HM, HN, HO, HP, HQ, HR, HS, HT, HU, HV, HW, HX, HY, HZ, IA, IB, decide_true, IC, ID, IE, IF, IG, IH, II, IJ, IK, IL, IM, IN, IP, IQ, IR, Bool.true_and, Bool.and_true, Bool.false_and, Bool.and_false, IS, Bool.and_eq_true, Bool.not_eq_true', IT, IU, IV, IW, IX, IY, ne_eq, not_false_iff, not_false_eq_true, IZ, JA, JB, JC, JD, JE, JF, JG, JH, JI, JJ, JK, JL, JM, JN, JO, JP, JQ, JR, JS, JT, JU, JV, JW, JX, JY, JZ, KA, KC, KD, KE, KF, KG, KH, KI, KJ, KK, KL, KM, KN, KO, KP, KQ, KR, KT, KU, KV, KW, KX, KY, KZ, LA, LB, LC, LD, ZZ, LF, LG, LH, LI, LJ, LK, LL, LM, LN, LO, LP, LQ, LR, LS, ZY, LU, LV, LW, LX, LY, LZ, MA, MB, MC, MD, ME, MF, MG, MH, MI, MJ, List.all_cons, List.all_nil, List.size_toArray, List.length_cons, List.length_nil, List.toList_toArray, List.set_cons_zero, List.set_cons_succ, Nat.reduceLeDiff, Nat.zero_le, true_or, Nat.le_refl, List.getElem?_toArray, List.getElem?_cons_zero, List.getElem?_cons_succ, List.map_cons, List.map_nil, Option.map_some, Option.map_none, List.getD_cons_zero, List.getD_cons_succ, Nat.reduceEqDiff, if_true, if_false, Nat.reduceLT, Nat.reduceAdd, Nat.zero_add, true_and, and_true, MK, ML, MM, MN, MO, MP, MQ, MR, MS, MT, MU, MV, MW, reduceCtorEq, false_imp_iff, forall_const, Bool.true_eq_false, Bool.false_eq_true, imp_self, Bool.not_true, Bool.not_false, c157r0, c157r1]) | (with_reducible rw [kont_eq]) | (simp +contextual only [pick_gen])
  refine call_det (sindex_spec s k hk S) ty_int ?_
  repeat' first | (with_reducible refine And.intro (fun _ => ?_) (fun _ => ?_)) | (with_reducible refine And.intro ?_ ?_) | (with_reducible refine fun (_ : (_ : Bool) = _) => ?_) | (with_reducible refine fun (_ : _ ∧ _) => ?_) | (simp +contextual (maxSteps := 2000000) only [Int.le_refl, Int.reduceEq, Int.reduceNe, Int.reduceBEq, Int.reduceBNe, Int.reduceLT, Int.reduceLE, Int.reduceGT, Int.reduceGE, Int.reduceAdd, Int.reduceSub, Int.reduceNeg, Nat.reduceSub, Nat.reduceMul, Nat.reduceBEq, Bool.false_or, Bool.true_or, decide_false, Int.cast_ofNat_Int, Int.natCast_zero, Int.toNat_natCast, Int.reduceToNat, AA, AB, AC, AD, AE, AF, AG, AH, AI, AJ, AK, AL, AM, AN, AO, AP, AQ, AR, AS, AT, AU, AV, AW, AX, AY, AZ, BA, BB, BC, BD, BE, BF, BG, BH, BI, BJ, BK, BL, BM, BN, BO, BP, BQ, BR, BS, BT, BU, BV, BW, BX, BY, BZ, CA, CB, CC, CD, CE, CF, CG, CH, CI, CJ, CL, CM, CN, CO, CP, CQ, CR, CS, CT, CU, CV, CW, CX, CY, CZ, DA, DB, DC, DD, DE, DF, DG, DH, DI, DJ, DK, DL, DM, DN, DO, DP, DQ, DR, DS, DT, DU, DV, DW, DX, DY, DZ, EA, EB, EC, ED, EE, EF, EG, EH, EI, EJ, EK, EL, EM, EN, EO, EP, EQ, ER, ES, ET, EU, EV, EW, EX, EY, EZ, FA, FB, FD, FE, FF, FG, FH, FI, FJ, FK, FL, FM, FN, FO, FP, FQ, FR, FS, FT, FU, FV, FW, FX, FY, FZ, GA, GB, GC, GD, GE, GF, GG, GH, GI, GJ, GK, GM, GN, GO, GP, GQ, GR, GS, GT, GU, GV, GW, GX, GY, List.zip_cons_cons, List.zip_nil_left, GZ, HA, HB, HC, HD, false_and, and_false, HE, HF, HG, HH, HI, HJ, HK, HL, HM, HN, HO, HP, HQ, HR, HS, HT, HU, HV, HW, HX, HY, HZ, IA, IB, decide_true, IC, ID, IE, IF, IG, IH, II, IJ, IK, IL, IM, IN, IP, IQ, IR, Bool.true_and, Bool.and_true, Bool.false_and, Bool.and_false, IS, Bool.and_eq_true, Bool.not_eq_true', IT, IU, IV, IW, IX, IY, ne_eq, not_false_iff, not_false_eq_true, IZ, JA, JB, JC, JD, JE, JF, JG, JH, JI, JJ, JK, JL, JM, JN, JO, JP, JQ, JR, JS, JT, JU, JV, JW, JX, JY, JZ, KA, KC, KD, KE, KF, KG, KH, KI, KJ, KK, KL, KM, KN, KO, KP, KQ, KR, KT, KU, KV, KW, KX, KY, KZ, LA, LB, LC, LD, ZZ, LF, LG, LH, LI, LJ, LK, LL, LM, LN, LO, LP, LQ, LR, LS, ZY, LU, LV, LW, LX, LY, LZ, MA, MB, MC, MD, ME, MF, MG, MH, MI, MJ, List.all_cons, List.all_nil, List.size_toArray, List.length_cons, List.length_nil, List.toList_toArray, List.set_cons_zero, List.set_cons_succ, Nat.reduceLeDiff, Nat.zero_le, true_or, Nat.le_refl, List.getElem?_toArray, List.getElem?_cons_zero, List.getElem?_cons_succ, List.map_cons, List.map_nil, Option.map_some, Option.map_none, List.getD_cons_zero, List.getD_cons_succ, Nat.reduceEqDiff, if_true, if_false, Nat.reduceLT, Nat.reduceAdd, Nat.zero_add, true_and, and_true, MK, ML, MM, MN, MO, MP, MQ, MR, MS, MT, MU, MV, MW, reduceCtorEq, false_imp_iff, forall_const, Bool.true_eq_false, Bool.false_eq_true, imp_self, Bool.not_true, Bool.not_false, c157r0, c157r1]) | (with_reducible rw [kont_eq]) | (simp +contextual only [pick_gen])
  first | exact ⟨_, Hp.le_refl _, rfl⟩ | exact ⟨_, Hp.le_refl _, rfl, rfl⟩ | exact ⟨_, Hp.le_refl _, rfl, rfl, rfl⟩
/-- Where the pieces of a text begin: the k-th one. -/
def pieceAt (s : ByteArray) (c : Int) : Nat → Nat
  | 0 => 0
  | k + 1 => nextB s c (pieceAt s c k) + 1
/-- The k-th piece. -/
def piece (s : ByteArray) (c : Int) (k : Nat) : ByteArray := s.extract (pieceAt s c k) (nextB s c (pieceAt s c k))
theorem nextB_extract (s : ByteArray) (c : Int) (a : Nat) (ha : a ≤ s.size) : nextB s c a = a + nextB (s.extract a s.size) c 0 := by
  obtain ⟨h1, h2, h3, h4⟩ := nextB_spec s c a ha
  obtain ⟨g1, g2, g3, g4⟩ := nextB_spec (s.extract a s.size) c 0 (Nat.zero_le _)
  rw [size_ext s a s.size (Nat.le_refl _) ha] at g2 g4
  generalize nextB s c a = x at *
  generalize nextB (s.extract a s.size) c 0 = y at *
  have e : ∀ i, a + i < s.size → bt (s.extract a s.size) (i : Int) = bt s ((a + i : Nat) : Int) := fun i hi => bt_ext s a s.size i (Nat.le_refl _) hi
  rcases Nat.lt_trichotomy x (a + y) with hlt | he | hgt
  · exfalso
    have hx : x < s.size := by omega
    have := g3 (x - a) (Nat.zero_le _) (by omega)
    rw [e _ (by omega), show a + (x - a) = x by omega] at this
    exact this (h4 hx)
  · exact he
  · exfalso
    have hy : y < s.size - a := by omega
    have h5 := g4 hy
    rw [e _ (by omega)] at h5
    exact h3 (a + y) (by omega) hgt h5
end Go.Proofs
