/- PH: functions of the program, compiled: printed by a program. -/
import Derived.Test.YtlonednppnmpeaaGreatDoorProg
import Derived.KernelRfl
import Derived.Test.YtlonednppnmpeaaGreatDoorStep
set_option linter.all false
set_option linter.all false
namespace Go.Proofs
open Go Go.PH
def c2D : Nat → Option (List Nat) := fun _ => none
def c2r0 : List SI := [
 It 0 0 (.xcall 1 [] .unit)]
def c2 : SC := (.reg c2r0 none)
theorem c2_ok : compFn Tryz.prog c2D Tryz.f2 = some (c2, []) := by kernel_rfl
def c3D (id : Nat) : Option (List Nat) := if id = 4 then some [0, 1, 2, 3, 5, 4, 6, 7, 8, 9, 11, 10, 12, 13, 14, 15, 16, 17, 18, 19, 20, 22, 21, 23, 24, 25, 26] else none
def c3r0 : List SI := [
 It 0 2 (.box 25 (Tm 0)),
 It 1 3 (.box 27 (Tm 1)),
 It 2 4 (.mv (KB false))]
def c3r1 : List SI := [
 It 0 5 (.mv (.const (.pointer none)))]
def c3r2 : List SI := [
 It 0 6 (.lda [(.int .i64), .str, .str, .str, (.int .i64), (.int .i64), (.int .u64), (.int .u64), (.int .u64), (.int .i64), .slice] (Tm 2)),
 It 1 7 (.call 4 [(Tm 6)] (.one .bool)),
 It 2 8 (.notb (Tm 7)),
 St 3 9 (.mv (Tm 8)),
 Gt 4 10 9 false (.fa 4 (Tm 3)),
 Gt 5 11 9 false (.ld .slice (Tm 10)),
 Gt 6 12 9 false (.len false (Tm 11)),
 Gt 7 13 9 false (.bin .gtr (Tm 12) (K64 5000)),
 It 8 14 (.pick (Tm 9) (KB true) (Tm 13))]
def c3r3 : List SI := [
 It 0 15 (.call 5 [] (.one .bool)),
 It 1 4 (.mv (Tm 15))]
def c3m4 : List (List Nat) := [[], [0], [0, 1], [0, 1], [0, 1, 2, 3], [0, 1], [0, 1, 2, 3, 4, 5], [0, 1, 2, 3, 4, 5, 6], [0, 1, 2, 3, 4, 5, 6, 7], [0, 1, 2, 3, 4, 5, 6, 7, 8], [0, 1, 2, 3, 4, 5, 6, 7, 8, 9], [0, 1, 2, 3, 4, 5, 6, 7, 8], [0, 1, 2, 3, 4, 5, 6, 7, 8, 9, 10, 11], [0, 1, 2, 3, 4, 5, 6, 7, 8, 9, 10, 11, 12], [0, 1, 2, 3, 4, 5, 6, 7, 8, 9, 10, 11, 12, 13], [0, 1, 2, 3, 4, 5, 6, 7, 8, 9, 10, 11, 12, 13, 14], [0, 1, 2, 3, 4, 5, 6, 7, 8, 9, 10, 11, 12, 13, 14, 15], [0, 1, 2, 3, 4, 5, 6, 7, 8, 9, 10, 11, 12, 13, 14, 15, 16], [0, 1, 2, 3, 4, 5, 6, 7, 8, 9, 10, 11, 12, 13, 14, 15, 16, 17], [0, 1, 2, 3, 4, 5, 6, 7, 8, 9, 10, 11, 12, 13, 14, 15, 16, 17, 18], [0, 1, 2, 3, 4, 5, 6, 7, 8, 9, 10, 11, 12, 13, 14, 15, 16, 17, 18, 19], [0, 1, 2, 3, 4, 5, 6, 7, 8, 9, 10, 11, 12, 13, 14, 15, 16, 17, 18, 19, 20], [0, 1, 2, 3, 4, 5, 6, 7, 8, 9, 10, 11, 12, 13, 14, 15, 16, 17, 18, 19], [0, 1, 2, 3, 4, 5, 6, 7, 8, 9, 10, 11, 12, 13, 14, 15, 16, 17, 18, 19, 20, 21, 22], [0, 1, 2, 3, 4, 5, 6, 7, 8, 9, 10, 11, 12, 13, 14, 15, 16, 17, 18, 19, 20, 21, 22, 23], [0, 1, 2, 3, 4, 5, 6, 7, 8, 9, 10, 11, 12, 13, 14, 15, 16, 17, 18, 19, 20, 21, 22, 23, 24], [0, 1, 2, 3, 4, 5, 6, 7, 8, 9, 10, 11, 12, 13, 14, 15, 16, 17, 18, 19, 20, 21, 22, 23, 24, 25]]
def c3r4 : List SI := [
 It 0 16 (.call 5 [] (.one .bool)),
 St 1 17 (.mv (Tm 16)),
 Gt 2 18 17 true (.mv (Tm 5)),
 Gt 3 19 17 true (.lda [(.int .i64), .str, .str, .str, (.int .i64), (.int .i64), (.int .u64), (.int .u64), (.int .u64), (.int .i64), .slice] (Tm 2)),
 Gt 5 21 17 true (.build [(.int .i64 0), (.int .i64 0), (.int .i64 0), (.int .u64 0), (.string ⟨#[]⟩), (.slice none 0 0)] [(0, 1, (K64 2))]),
 Gt 4 20 17 true (.call 7 [(Tm 18), (Tm 19)] (.agg [(.int .i64), (.int .i64), (.int .i64), (.int .u64), .str, .slice])),
 Gt 6 22 17 true (.call 6 [(Tm 20), (Tm 21)] (.one .bool)),
 It 7 23 (.pick (Tm 17) (Tm 22) (KB false)),
 St 8 24 (.mv (Tm 23)),
 Gt 9 25 24 true (.mv (Tm 5)),
 Gt 11 27 24 true (.build [(.int .i64 0), (.slice none 0 0), (.slice none 0 0), (.slice none 0 0), (.slice none 0 0), (.slice none 0 0)] []),
 Gt 10 26 24 true (.call 9 [(Tm 25)] (.agg [(.int .i64), .slice, .slice, .slice, .slice, .slice])),
 Gt 12 28 24 true (.call 8 [(Tm 26), (Tm 27)] (.one .bool)),
 It 13 29 (.pick (Tm 24) (Tm 28) (KB false)),
 St 14 30 (.mv (Tm 29)),
 Gt 15 31 30 true (.mv (Tm 5)),
 Gt 16 32 30 true (.call 10 [(Tm 31)] (.one .ptr)),
 Gt 17 33 30 true (.nileq .ptr false (Tm 32) (.const (.pointer none))),
 It 18 34 (.pick (Tm 30) (Tm 33) (KB false)),
 St 19 35 (.mv (Tm 34)),
 Gt 20 36 35 true (.lda [(.int .u64), (.int .u64), (.int .u64), (.int .i64), .slice] (Tm 3)),
 Gt 22 38 35 true (.lda [(.int .u64), (.int .u64), (.int .u64), (.int .i64), .slice] (Tm 3)),
 Gt 21 37 35 true (.call 11 [(Tm 36)] (.one (.int .i64))),
 Gt 23 39 35 true (.call 12 [(Tm 38)] (.one (.int .i64))),
 Gt 24 40 35 true (.bin .eql (Tm 37) (Tm 39)),
 It 25 41 (.pick (Tm 35) (Tm 40) (KB false)),
 It 26 4 (.mv (Tm 41))]
def c3 : SC := (.seq (.reg c3r0 none) (.seq (.reg c3r1 none) (.seq (.seq (.reg c3r2 none) (.cond (Tm 14) (.seq (.reg c3r3 none) .ret) .skip)) (.seq (.reg c3r4 (some c3m4)) .ret))))
theorem c3_ok : compFn Tryz.prog c3D Tryz.f3 = some (c3, [.tmp 4]) := by kernel_rfl
def c4D : Nat → Option (List Nat) := fun _ => none
def c4r0 : List SI := [
 It 0 1 (.box 25 (Tm 0)),
 It 1 2 (.mv (KB false))]
def c4r1 : List SI := [
 It 0 3 (.fa 1 (Tm 1)),
 It 1 4 (.ld .str (Tm 3)),
 It 2 5 (.len true (Tm 4)),
 It 3 6 (.bin .leq (Tm 5) (K64 300)),
 St 4 7 (.mv (Tm 6)),
 Gt 5 8 7 true (.fa 2 (Tm 1)),
 Gt 6 9 7 true (.ld .str (Tm 8)),
 Gt 7 10 7 true (.len true (Tm 9)),
 Gt 8 11 7 true (.bin .leq (Tm 10) (K64 2000)),
 It 9 12 (.pick (Tm 7) (Tm 11) (KB false)),
 St 10 13 (.mv (Tm 12)),
 Gt 11 14 13 true (.fa 3 (Tm 1)),
 Gt 12 15 13 true (.ld .str (Tm 14)),
 Gt 13 16 13 true (.len true (Tm 15)),
 Gt 14 17 13 true (.bin .leq (Tm 16) (K64 300)),
 It 15 18 (.pick (Tm 13) (Tm 17) (KB false)),
 St 16 19 (.mv (Tm 18)),
 Gt 17 20 19 true (.fa 10 (Tm 1)),
 Gt 18 21 19 true (.ld .slice (Tm 20)),
 Gt 19 22 19 true (.len false (Tm 21)),
 Gt 20 23 19 true (.bin .leq (Tm 22) (K64 5000)),
 It 21 24 (.pick (Tm 19) (Tm 23) (KB false)),
 It 22 2 (.mv (Tm 24))]
def c4 : SC := (.seq (.reg c4r0 none) (.seq (.reg c4r1 none) .ret))
theorem c4_ok : compFn Tryz.prog c4D Tryz.f4 = some (c4, [.tmp 2]) := by kernel_rfl
def c5D : Nat → Option (List Nat) := fun _ => none
def c5r0 : List SI := [
 It 0 0 (.mv (KB false))]
def c5r1 : List SI := [
 It 0 2 (.call 13 [] (.one .ptr)),
 It 1 1 (.mv (Tm 2))]
def c5r2 : List SI := [
 It 0 3 (.mv (Tm 1)),
 It 1 4 (.nileq .ptr true (Tm 3) (.const (.pointer none))),
 St 2 5 (.mv (Tm 4)),
 Gt 3 6 5 true (.mv (Tm 1)),
 Gt 4 7 5 true (.build [(.int .i64 0), (.string ⟨#[]⟩), (.string ⟨#[]⟩), (.string ⟨#[]⟩), (.int .i64 0), (.int .i64 0), (.int .u64 0), (.int .u64 0), (.int .u64 0), (.int .i64 0), (.slice none 0 0)] [(0, 1, (K64 6)), (1, 1, (KS #[97])), (2, 1, (KS #[97])), (4, 1, (K64 1))]),
 Gt 5 8 5 true (.call 7 [(Tm 6), (Tm 7)] (.agg [(.int .i64), (.int .i64), (.int .i64), (.int .u64), .str, .slice])),
 Gt 6 9 5 true (.fld 1 1 false (Tm 8)),
 Gt 7 10 5 true (.bin .eql (Tm 9) (K64 1)),
 It 8 11 (.pick (Tm 5) (Tm 10) (KB false)),
 St 9 12 (.mv (Tm 11)),
 Gt 10 13 12 true (.mv (Tm 1)),
 Gt 11 14 12 true (.call 9 [(Tm 13)] (.agg [(.int .i64), .slice, .slice, .slice, .slice, .slice])),
 Gt 12 15 12 true (.fld 3 1 false (Tm 14)),
 Gt 13 16 12 true (.len false (Tm 15)),
 Gt 14 17 12 true (.bin .eql (Tm 16) (K64 1)),
 It 15 18 (.pick (Tm 12) (Tm 17) (KB false)),
 It 16 0 (.mv (Tm 18))]
def c5 : SC := (.seq (.reg c5r0 none) (.seq (.reg c5r1 none) (.seq (.reg c5r2 none) .ret)))
theorem c5_ok : compFn Tryz.prog c5D Tryz.f5 = some (c5, [.tmp 0]) := by kernel_rfl
def c6D : Nat → Option (List Nat) := fun _ => none
def c6r0 : List SI := [
 It 0 2 (.box 35 (Tm 0)),
 It 1 3 (.box 35 (Tm 1)),
 It 2 4 (.mv (KB false))]
def c6r1 : List SI := [
 It 0 5 (.fa 0 (Tm 2)),
 It 1 6 (.ld (.int .i64) (Tm 5)),
 It 2 7 (.fa 0 (Tm 3)),
 It 3 8 (.ld (.int .i64) (Tm 7)),
 It 4 9 (.bin .eql (Tm 6) (Tm 8)),
 St 5 10 (.mv (Tm 9)),
 Gt 6 11 10 true (.fa 1 (Tm 2)),
 Gt 7 12 10 true (.ld (.int .i64) (Tm 11)),
 Gt 8 13 10 true (.fa 1 (Tm 3)),
 Gt 9 14 10 true (.ld (.int .i64) (Tm 13)),
 Gt 10 15 10 true (.bin .eql (Tm 12) (Tm 14)),
 It 11 16 (.pick (Tm 10) (Tm 15) (KB false)),
 St 12 17 (.mv (Tm 16)),
 Gt 13 18 17 true (.fa 2 (Tm 2)),
 Gt 14 19 17 true (.ld (.int .i64) (Tm 18)),
 Gt 15 20 17 true (.fa 2 (Tm 3)),
 Gt 16 21 17 true (.ld (.int .i64) (Tm 20)),
 Gt 17 22 17 true (.bin .eql (Tm 19) (Tm 21)),
 It 18 23 (.pick (Tm 17) (Tm 22) (KB false)),
 St 19 24 (.mv (Tm 23)),
 Gt 20 25 24 true (.fa 3 (Tm 2)),
 Gt 21 26 24 true (.ld (.int .u64) (Tm 25)),
 Gt 22 27 24 true (.fa 3 (Tm 3)),
 Gt 23 28 24 true (.ld (.int .u64) (Tm 27)),
 Gt 24 29 24 true (.bin .eql (Tm 26) (Tm 28)),
 It 25 30 (.pick (Tm 24) (Tm 29) (KB false)),
 St 26 31 (.mv (Tm 30)),
 Gt 27 32 31 true (.fa 4 (Tm 2)),
 Gt 28 33 31 true (.ld .str (Tm 32)),
 Gt 29 34 31 true (.fa 4 (Tm 3)),
 Gt 30 35 31 true (.ld .str (Tm 34)),
 Gt 31 36 31 true (.sop .eql (Tm 33) (Tm 35)),
 It 32 37 (.pick (Tm 31) (Tm 36) (KB false)),
 St 33 38 (.mv (Tm 37)),
 Gt 34 39 38 true (.fa 5 (Tm 2)),
 Gt 35 40 38 true (.ld .slice (Tm 39)),
 Gt 36 41 38 true (.fa 5 (Tm 3)),
 Gt 37 42 38 true (.ld .slice (Tm 41)),
 Gt 38 43 38 true (.call 14 [(Tm 40), (Tm 42), (.func 15)] (.one .bool)),
 It 39 44 (.pick (Tm 38) (Tm 43) (KB false)),
 It 40 4 (.mv (Tm 44))]
def c6 : SC := (.seq (.reg c6r0 none) (.seq (.reg c6r1 none) .ret))
theorem c6_ok : compFn Tryz.prog c6D Tryz.f6 = some (c6, [.tmp 4]) := by kernel_rfl
def c7D (id : Nat) : Option (List Nat) := if id = 30 then some [0, 1, 3, 4, 2, 5, 6, 7] else none
def c7r0 : List SI := [
 It 0 3 (.box 25 (Tm 1)),
 It 1 4 (.alloc 35 [(.int .i64 0), (.int .i64 0), (.int .i64 0), (.int .u64 0), (.string ⟨#[]⟩), (.slice none 0 0)])]
def c7r1 : List SI := [
 It 0 6 (.mv (Tm 0)),
 It 1 7 (.nileq .ptr false (Tm 6) (.const (.pointer none)))]
def c7r2 : List SI := [
 It 0 8 (.call 16 [(K64 2)] (.agg [(.int .i64), (.int .i64), (.int .i64), (.int .u64), .str, .slice])),
 Jt 1 (.st 6 (Tm 4) (Tm 8))]
def c7r3 : List SI := [
 It 0 9 (.fa 0 (Tm 3)),
 It 1 10 (.ld (.int .i64) (Tm 9))]
def c7r4 : List SI := [
 It 0 12 (.bin .eql (Tm 10) (K64 1)),
 It 1 11 (.mv (Tm 12))]
def c7r5 : List SI := [
 It 0 13 (.mv (Tm 0)),
 It 1 14 (.fa 1 (Tm 3)),
 It 2 15 (.ld .str (Tm 14)),
 It 3 16 (.fa 2 (Tm 3)),
 It 4 17 (.ld .str (Tm 16)),
 It 5 18 (.build [(.int .i64 0), (.string ⟨#[]⟩), (.string ⟨#[]⟩), (.int .i64 0)] [(0, 1, (K64 1)), (1, 1, (Tm 15)), (2, 1, (Tm 17))]),
 It 6 19 (.call 17 [(Tm 13), (Tm 18)] (.agg [(.int .i64), (.int .i64), (.int .i64), (.int .u64), .str, .slice])),
 Jt 7 (.st 6 (Tm 4) (Tm 19))]
def c7r6 : List SI := [
 It 0 21 (.bin .eql (Tm 10) (K64 2)),
 It 1 20 (.mv (Tm 21))]
def c7r7 : List SI := [
 It 0 22 (.mv (Tm 0)),
 It 1 23 (.fa 1 (Tm 3)),
 It 2 24 (.ld .str (Tm 23)),
 It 3 25 (.fa 4 (Tm 3)),
 It 4 26 (.ld (.int .i64) (Tm 25)),
 It 5 27 (.build [(.int .i64 0), (.string ⟨#[]⟩), (.string ⟨#[]⟩), (.int .i64 0)] [(0, 1, (K64 2)), (1, 1, (Tm 24)), (3, 1, (Tm 26))]),
 It 6 28 (.call 17 [(Tm 22), (Tm 27)] (.agg [(.int .i64), (.int .i64), (.int .i64), (.int .u64), .str, .slice])),
 Jt 7 (.st 6 (Tm 4) (Tm 28))]
def c7r8 : List SI := [
 It 0 30 (.bin .eql (Tm 10) (K64 3)),
 It 1 29 (.mv (Tm 30))]
def c7r9 : List SI := [
 It 0 31 (.mv (Tm 0)),
 It 1 32 (.fa 1 (Tm 3)),
 It 2 33 (.ld .str (Tm 32)),
 It 3 34 (.fa 4 (Tm 3)),
 It 4 35 (.ld (.int .i64) (Tm 34)),
 It 5 36 (.build [(.int .i64 0), (.string ⟨#[]⟩), (.string ⟨#[]⟩), (.int .i64 0)] [(0, 1, (K64 3)), (1, 1, (Tm 33)), (3, 1, (Tm 35))]),
 It 6 37 (.call 17 [(Tm 31), (Tm 36)] (.agg [(.int .i64), (.int .i64), (.int .i64), (.int .u64), .str, .slice])),
 Jt 7 (.st 6 (Tm 4) (Tm 37))]
def c7r10 : List SI := [
 It 0 39 (.bin .eql (Tm 10) (K64 4)),
 It 1 38 (.mv (Tm 39))]
def c7r11 : List SI := [
 It 0 40 (.mv (Tm 0)),
 It 1 41 (.fa 1 (Tm 3)),
 It 2 42 (.ld .str (Tm 41)),
 It 3 43 (.fa 4 (Tm 3)),
 It 4 44 (.ld (.int .i64) (Tm 43)),
 It 5 45 (.build [(.int .i64 0), (.string ⟨#[]⟩), (.string ⟨#[]⟩), (.int .i64 0)] [(0, 1, (K64 4)), (1, 1, (Tm 42)), (3, 1, (Tm 44))]),
 It 6 46 (.call 17 [(Tm 40), (Tm 45)] (.agg [(.int .i64), (.int .i64), (.int .i64), (.int .u64), .str, .slice])),
 Jt 7 (.st 6 (Tm 4) (Tm 46))]
def c7r12 : List SI := [
 It 0 48 (.bin .eql (Tm 10) (K64 5)),
 It 1 47 (.mv (Tm 48))]
def c7r13 : List SI := [
 It 0 49 (.mv (Tm 0)),
 It 1 50 (.lda [(.int .i64), .str, .str, .str, (.int .i64), (.int .i64), (.int .u64), (.int .u64), (.int .u64), (.int .i64), .slice] (Tm 3)),
 It 2 51 (.call 18 [(Tm 49), (Tm 50)] (.agg [(.int .i64), (.int .i64), (.int .i64), (.int .u64), .str, .slice])),
 Jt 3 (.st 6 (Tm 4) (Tm 51))]
def c7r14 : List SI := [
 It 0 53 (.bin .eql (Tm 10) (K64 6)),
 It 1 52 (.mv (Tm 53))]
def c7r15 : List SI := [
 It 0 54 (.mv (Tm 0)),
 It 1 55 (.lda [(.int .i64), .str, .str, .str, (.int .i64), (.int .i64), (.int .u64), (.int .u64), (.int .u64), (.int .i64), .slice] (Tm 3)),
 It 2 56 (.call 19 [(Tm 54), (Tm 55)] (.agg [(.int .i64), (.int .i64), (.int .i64), (.int .u64), .str, .slice])),
 Jt 3 (.st 6 (Tm 4) (Tm 56))]
def c7r16 : List SI := [
 It 0 58 (.bin .eql (Tm 10) (K64 9)),
 It 1 57 (.mv (Tm 58))]
def c7r17 : List SI := [
 It 0 59 (.mv (Tm 0)),
 It 1 60 (.lda [(.int .i64), .str, .str, .str, (.int .i64), (.int .i64), (.int .u64), (.int .u64), (.int .u64), (.int .i64), .slice] (Tm 3)),
 It 2 61 (.call 20 [(Tm 59), (Tm 60)] (.agg [(.int .i64), (.int .i64), (.int .i64), (.int .u64), .str, .slice])),
 Jt 3 (.st 6 (Tm 4) (Tm 61))]
def c7r18 : List SI := [
 It 0 63 (.bin .eql (Tm 10) (K64 10)),
 It 1 62 (.mv (Tm 63))]
def c7r19 : List SI := [
 It 0 64 (.mv (Tm 0)),
 It 1 65 (.lda [(.int .i64), .str, .str, .str, (.int .i64), (.int .i64), (.int .u64), (.int .u64), (.int .u64), (.int .i64), .slice] (Tm 3)),
 It 2 66 (.call 21 [(Tm 64), (Tm 65)] (.agg [(.int .i64), (.int .i64), (.int .i64), (.int .u64), .str, .slice])),
 Jt 3 (.st 6 (Tm 4) (Tm 66))]
def c7r20 : List SI := [
 It 0 68 (.bin .eql (Tm 10) (K64 7)),
 It 1 67 (.mv (Tm 68))]
def c7r21 : List SI := [
 It 0 69 (.bin .eql (Tm 10) (K64 8)),
 It 1 67 (.mv (Tm 69))]
def c7r22 : List SI := [
 It 0 70 (.bin .eql (Tm 10) (K64 11)),
 It 1 67 (.mv (Tm 70))]
def c7r23 : List SI := [
 It 0 71 (.mv (Tm 0)),
 It 1 72 (.fa 1 (Tm 3)),
 It 2 73 (.ld .str (Tm 72)),
 It 3 74 (.fa 4 (Tm 3)),
 It 4 75 (.ld (.int .i64) (Tm 74)),
 It 5 76 (.call 22 [(Tm 71), (Tm 73), (Tm 75)] (.one (.int .i64))),
 It 6 5 (.mv (Tm 76))]
def c7r24 : List SI := [
 It 0 78 (.mv (Tm 5)),
 It 1 79 (.bin .lss (Tm 78) (K64 0)),
 It 2 77 (.mv (Tm 79))]
def c7r25 : List SI := [
 It 0 80 (.call 16 [(K64 8)] (.agg [(.int .i64), (.int .i64), (.int .i64), (.int .u64), .str, .slice])),
 Jt 1 (.st 6 (Tm 4) (Tm 80))]
def c7r26 : List SI := [
 It 0 82 (.fa 0 (Tm 3)),
 It 1 83 (.ld (.int .i64) (Tm 82)),
 It 2 84 (.bin .eql (Tm 83) (K64 7)),
 It 3 81 (.mv (Tm 84))]
def c7r27 : List SI := [
 It 0 85 (.mv (Tm 0)),
 It 1 86 (.mv (Tm 5)),
 It 2 87 (.lda [(.int .i64), .str, .str, .str, (.int .i64), (.int .i64), (.int .u64), (.int .u64), (.int .u64), (.int .i64), .slice] (Tm 3)),
 It 3 88 (.call 23 [(Tm 85), (Tm 86), (Tm 87)] (.agg [(.int .i64), (.int .i64), (.int .i64), (.int .u64), .str, .slice])),
 Jt 4 (.st 6 (Tm 4) (Tm 88))]
def c7r28 : List SI := [
 It 0 90 (.fa 0 (Tm 3)),
 It 1 91 (.ld (.int .i64) (Tm 90)),
 It 2 92 (.bin .eql (Tm 91) (K64 8)),
 It 3 89 (.mv (Tm 92))]
def c7r29 : List SI := [
 It 0 93 (.mv (Tm 0)),
 It 1 94 (.mv (Tm 5)),
 It 2 95 (.lda [(.int .i64), .str, .str, .str, (.int .i64), (.int .i64), (.int .u64), (.int .u64), (.int .u64), (.int .i64), .slice] (Tm 3)),
 It 3 96 (.call 24 [(Tm 93), (Tm 94), (Tm 95)] (.agg [(.int .i64), (.int .i64), (.int .i64), (.int .u64), .str, .slice])),
 Jt 4 (.st 6 (Tm 4) (Tm 96))]
def c7m30 : List (List Nat) := [[], [], [0, 1], [], [3], [0, 1, 2, 3, 4], [0, 1, 2, 3, 4, 5], [0, 1, 2, 3, 4, 5, 6]]
def c7r30 : List SI := [
 It 0 97 (.mv (Tm 0)),
 It 1 98 (.mv (Tm 5)),
 It 3 100 (.fa 9 (Tm 3)),
 It 4 101 (.ld (.int .i64) (Tm 100)),
 It 2 99 (.call 25 [(Tm 97), (Tm 98)] (.one .ptr)),
 It 5 102 (.call 26 [(Tm 99), (Tm 101)] (.one (.int .i64))),
 It 6 103 (.build [(.int .i64 0), (.int .i64 0), (.int .i64 0), (.int .u64 0), (.string ⟨#[]⟩), (.slice none 0 0)] [(1, 1, (Tm 102))]),
 Jt 7 (.st 6 (Tm 4) (Tm 103))]
def c7r31 : List SI := [
 It 0 104 (.call 16 [(K64 1)] (.agg [(.int .i64), (.int .i64), (.int .i64), (.int .u64), .str, .slice])),
 Jt 1 (.st 6 (Tm 4) (Tm 104))]
def c7 : SC := (.seq (.reg c7r0 none) (.seq (.seq (.reg c7r1 none) (.cond (Tm 7) (.seq (.reg c7r2 none) .ret) .skip)) (.seq (.seq (.reg c7r3 none) (.block 0 (.seq (.reg c7r4 none) (.cond (Tm 11) (.seq (.reg c7r5 none) .ret) (.seq (.reg c7r6 none) (.cond (Tm 20) (.seq (.reg c7r7 none) .ret) (.seq (.reg c7r8 none) (.cond (Tm 29) (.seq (.reg c7r9 none) .ret) (.seq (.reg c7r10 none) (.cond (Tm 38) (.seq (.reg c7r11 none) .ret) (.seq (.reg c7r12 none) (.cond (Tm 47) (.seq (.reg c7r13 none) .ret) (.seq (.reg c7r14 none) (.cond (Tm 52) (.seq (.reg c7r15 none) .ret) (.seq (.reg c7r16 none) (.cond (Tm 57) (.seq (.reg c7r17 none) .ret) (.seq (.reg c7r18 none) (.cond (Tm 62) (.seq (.reg c7r19 none) .ret) (.seq (.seq (.reg c7r20 none) (.cond (Tm 67) .skip (.seq (.reg c7r21 none) (.cond (Tm 67) .skip (.reg c7r22 none))))) (.cond (Tm 67) (.seq (.reg c7r23 none) (.seq (.block 1 (.seq (.reg c7r24 none) (.cond (Tm 77) (.seq (.reg c7r25 none) .ret) (.seq (.reg c7r26 none) (.cond (Tm 81) (.seq (.reg c7r27 none) .ret) (.seq (.reg c7r28 none) (.cond (Tm 89) (.seq (.reg c7r29 none) .ret) .skip))))))) (.seq (.reg c7r30 (some c7m30)) .ret))) .skip)))))))))))))))))))) (.seq (.reg c7r31 none) .ret))))
theorem c7_ok : compFn Tryz.prog c7D Tryz.f7 = some (c7, [.cella 4 [(.int .i64), (.int .i64), (.int .i64), (.int .u64), .str, .slice]]) := by kernel_rfl
def c8D : Nat → Option (List Nat) := fun _ => none
def c8r0 : List SI := [
 It 0 2 (.box 46 (Tm 0)),
 It 1 3 (.box 46 (Tm 1)),
 It 2 4 (.mv (KB false))]
def c8r1 : List SI := [
 It 0 5 (.fa 0 (Tm 2)),
 It 1 6 (.lda [(.int .i64), .slice, .slice] (Tm 5)),
 It 2 7 (.fa 0 (Tm 3)),
 It 3 8 (.lda [(.int .i64), .slice, .slice] (Tm 7)),
 It 4 9 (.call 27 [(Tm 6), (Tm 8)] (.one .bool)),
 St 5 10 (.mv (Tm 9)),
 Gt 6 11 10 true (.fa 3 (Tm 2)),
 Gt 7 12 10 true (.ld .slice (Tm 11)),
 Gt 8 13 10 true (.fa 3 (Tm 3)),
 Gt 9 14 10 true (.ld .slice (Tm 13)),
 Gt 10 15 10 true (.call 28 [(Tm 12), (Tm 14)] (.one .bool)),
 It 11 16 (.pick (Tm 10) (Tm 15) (KB false)),
 St 12 17 (.mv (Tm 16)),
 Gt 13 18 17 true (.fa 4 (Tm 2)),
 Gt 14 19 17 true (.ld .slice (Tm 18)),
 Gt 15 20 17 true (.fa 4 (Tm 3)),
 Gt 16 21 17 true (.ld .slice (Tm 20)),
 Gt 17 22 17 true (.call 29 [(Tm 19), (Tm 21), (.func 30)] (.one .bool)),
 It 18 23 (.pick (Tm 17) (Tm 22) (KB false)),
 St 19 24 (.mv (Tm 23)),
 Gt 20 25 24 true (.fa 5 (Tm 2)),
 Gt 21 26 24 true (.ld .slice (Tm 25)),
 Gt 22 27 24 true (.fa 5 (Tm 3)),
 Gt 23 28 24 true (.ld .slice (Tm 27)),
 Gt 24 29 24 true (.call 31 [(Tm 26), (Tm 28)] (.one .bool)),
 It 25 30 (.pick (Tm 24) (Tm 29) (KB false)),
 It 26 4 (.mv (Tm 30))]
def c8 : SC := (.seq (.reg c8r0 none) (.seq (.reg c8r1 none) .ret))
theorem c8_ok : compFn Tryz.prog c8D Tryz.f8 = some (c8, [.tmp 4]) := by kernel_rfl
def c9D (id : Nat) : Option (List Nat) := if id = 3 then some [0, 1, 2, 3, 4, 5, 6, 7, 9, 10, 11, 12, 8, 13, 14, 15, 16] else if id = 4 then some [0, 1, 2, 3, 4, 6, 7, 8, 9, 10, 5, 12, 13, 11, 14, 15, 16, 17] else if id = 13 then some [0, 1, 2, 3, 5, 6, 4, 7, 8, 9, 10] else none
def c9r0 : List SI := [
 It 0 2 (.alloc 46 [(.int .i64 0), (.slice none 0 0), (.slice none 0 0), (.slice none 0 0), (.slice none 0 0), (.slice none 0 0)])]
def c9r1 : List SI := [
 It 0 11 (.mv (Tm 0)),
 It 1 12 (.nileq .ptr false (Tm 11) (.const (.pointer none)))]
def c9r2 : List SI := [
 It 0 13 (.build [(.int .i64 0), (.slice none 0 0), (.slice none 0 0), (.slice none 0 0), (.slice none 0 0), (.slice none 0 0)] []),
 Jt 1 (.st 6 (Tm 2) (Tm 13))]
def c9m3 : List (List Nat) := [[], [0], [0, 1], [0, 1, 2], [], [4], [4, 5], [4, 5, 6], [4, 5, 6, 7], [], [9], [9, 10], [9, 10, 11], [4, 5, 6, 7, 8, 9, 10, 11, 12], [0, 1, 2, 3, 4, 5, 6, 7, 8, 9, 10, 11, 12, 13], [], [0, 1, 2, 3, 4, 5, 6, 7, 8, 9, 10, 11, 12, 13, 14, 15]]
def c9r3 : List SI := [
 It 0 14 (.mv (Tm 0)),
 It 1 15 (.nilc (Tm 14)),
 It 2 16 (.fa 0 (Tm 15)),
 It 3 17 (.lda [(.int .i64), .slice, .slice] (Tm 16)),
 It 4 18 (.mv (Tm 0)),
 It 5 19 (.nilc (Tm 18)),
 It 6 20 (.fa 3 (Tm 19)),
 It 7 21 (.ld .slice (Tm 20)),
 It 9 23 (.mv (Tm 0)),
 It 10 24 (.nilc (Tm 23)),
 It 11 25 (.fa 5 (Tm 24)),
 It 12 26 (.ld .slice (Tm 25)),
 It 8 22 (.call 32 [(Tm 21)] (.one .slice)),
 It 13 27 (.call 33 [(Tm 26)] (.one .slice)),
 It 14 28 (.build [(.int .i64 0), (.slice none 0 0), (.slice none 0 0), (.slice none 0 0), (.slice none 0 0), (.slice none 0 0)] [(0, 3, (Tm 17)), (3, 1, (Tm 22)), (5, 1, (Tm 27))]),
 It 15 3 (.alloc 46 [(.int .i64 0), (.slice none 0 0), (.slice none 0 0), (.slice none 0 0), (.slice none 0 0), (.slice none 0 0)]),
 Jt 16 (.st 6 (Tm 3) (Tm 28))]
def c9m4 : List (List Nat) := [[], [0], [0, 1], [0, 1, 2], [0, 1, 2, 3], [0, 1, 2, 3, 4], [], [6], [6, 7], [6, 7, 8], [6, 7, 8, 9], [0, 1, 2, 3, 4, 5, 6, 7, 8, 9, 10], [0, 1, 2, 3, 4, 5], [0, 1, 2, 3, 4, 5, 12], [0, 1, 2, 3, 4, 5, 6, 7, 8, 9, 10, 11, 12, 13], [0, 1, 2, 3, 4, 5, 6, 7, 8, 9, 10, 11, 12, 13, 14], [0, 1, 2, 3, 4, 5, 6, 7, 8, 9, 10, 11, 12, 13, 14, 15], [0, 1, 2, 3, 4, 5, 6, 7, 8, 9, 10, 11, 12, 13, 14, 15, 16]]
def c9r4 : List SI := [
 It 0 29 (.mv (Tm 0)),
 It 1 30 (.nilc (Tm 29)),
 It 2 31 (.fa 0 (Tm 30)),
 It 3 32 (.fa 1 (Tm 31)),
 It 4 33 (.ld .slice (Tm 32)),
 It 6 35 (.mv (Tm 0)),
 It 7 36 (.nilc (Tm 35)),
 It 8 37 (.fa 0 (Tm 36)),
 It 9 38 (.fa 2 (Tm 37)),
 It 10 39 (.ld .slice (Tm 38)),
 It 5 34 (.call 34 [(Tm 33)] (.one .slice)),
 It 12 41 (.fa 0 (Tm 3)),
 It 13 42 (.fa 1 (Tm 41)),
 It 11 40 (.call 35 [(Tm 39)] (.one .slice)),
 Jt 14 (.st 1 (Tm 42) (Tm 34)),
 It 15 43 (.fa 0 (Tm 3)),
 It 16 44 (.fa 2 (Tm 43)),
 Jt 17 (.st 1 (Tm 44) (Tm 40))]
def c9r5 : List SI := [
 It 0 45 (.fa 0 (Tm 3)),
 It 1 46 (.fa 2 (Tm 45)),
 It 2 47 (.ld .slice (Tm 46)),
 It 3 48 (.len false (Tm 47)),
 It 4 49 (.mv (K64 0))]
def c9r6 : List SI := [
 It 0 50 (.bin .lss (Tm 49) (Tm 48))]
def c9r7 : List SI := [
 It 0 51 (.mv (Tm 49)),
 It 1 52 (.ia 3 (Tm 47) (Tm 49)),
 It 2 53 (.lda [.str, (.int .i64), .slice] (Tm 52)),
 It 3 5 (.alloc 83 [(.string ⟨#[]⟩), (.int .i64 0), (.slice none 0 0)]),
 It 4 4 (.mv (Tm 51)),
 Jt 5 (.st 3 (Tm 5) (Tm 53))]
def c9m8 : List (List Nat) := [[], [0], [0, 1], [], [], [4], [4, 5], [0, 1, 2, 3, 4, 5, 6], [0, 1, 2, 3, 4, 5, 6, 7], [0, 1, 2, 3, 4, 5, 6, 7, 8]]
def c9r8 : List SI := [
 It 0 54 (.fa 0 (Tm 3)),
 It 1 55 (.fa 2 (Tm 54)),
 It 2 56 (.ld .slice (Tm 55)),
 It 3 57 (.mv (Tm 4)),
 It 4 58 (.fa 2 (Tm 5)),
 It 5 59 (.ld .slice (Tm 58)),
 It 6 60 (.call 36 [(Tm 59)] (.one .slice)),
 It 7 61 (.ia 3 (Tm 56) (Tm 57)),
 It 8 62 (.fa 2 (Tm 61)),
 Jt 9 (.st 1 (Tm 62) (Tm 60))]
def c9r9 : List SI := [
 It 0 63 (.bin .add (Tm 49) (K64 1)),
 It 1 49 (.mv (Tm 63))]
def c9l10 : SC := (.seq (.reg c9r6 none) (.seq (.cond (Tm 50) .skip (.exit 0)) (.seq (.block 1 (.seq (.reg c9r7 none) (.reg c9r8 (some c9m8)))) (.reg c9r9 none))))
def c9r11 : List SI := [
 It 0 64 (.mv (Tm 0)),
 It 1 65 (.nilc (Tm 64)),
 It 2 66 (.fa 4 (Tm 65)),
 It 3 67 (.ld .slice (Tm 66)),
 It 4 68 (.len false (Tm 67)),
 It 5 69 (.mv (K64 0))]
def c9r12 : List SI := [
 It 0 70 (.bin .lss (Tm 69) (Tm 68))]
def c9r13 : List SI := [
 It 0 71 (.ia 4 (Tm 67) (Tm 69)),
 It 1 72 (.lda [.str, (.int .i64), .slice, .slice] (Tm 71)),
 It 2 7 (.alloc 88 [(.string ⟨#[]⟩), (.int .i64 0), (.slice none 0 0), (.slice none 0 0)]),
 Jt 3 (.st 4 (Tm 7) (Tm 72))]
def c9m14 : List (List Nat) := [[], [0], [], [2], [], [], [5], [4, 5, 6], [0, 1, 2, 3, 4, 5, 6, 7], [], [0, 1, 2, 3, 4, 5, 6, 7, 8, 9]]
def c9r14 : List SI := [
 It 0 73 (.fa 0 (Tm 7)),
 It 1 74 (.ld .str (Tm 73)),
 It 2 75 (.fa 1 (Tm 7)),
 It 3 76 (.ld (.int .i64) (Tm 75)),
 It 5 78 (.fa 3 (Tm 7)),
 It 6 79 (.ld .slice (Tm 78)),
 It 4 77 (.call 37 [(Tm 7)] (.one (.int .u64))),
 It 7 80 (.call 38 [(Tm 79)] (.one .slice)),
 It 8 81 (.build [(.string ⟨#[]⟩), (.int .i64 0), (.int .u64 0), (.slice none 0 0), (.slice none 0 0)] [(0, 1, (Tm 74)), (1, 1, (Tm 76)), (2, 1, (Tm 77)), (4, 1, (Tm 80))]),
 It 9 8 (.alloc 69 [(.string ⟨#[]⟩), (.int .i64 0), (.int .u64 0), (.slice none 0 0), (.slice none 0 0)]),
 Jt 10 (.st 5 (Tm 8) (Tm 81))]
def c9r15 : List SI := [
 It 0 82 (.fa 2 (Tm 7)),
 It 1 83 (.ld .slice (Tm 82)),
 It 2 84 (.len false (Tm 83)),
 It 3 85 (.mv (K64 0))]
def c9r16 : List SI := [
 It 0 86 (.bin .lss (Tm 85) (Tm 84))]
def c9r17 : List SI := [
 It 0 87 (.ia 5 (Tm 83) (Tm 85)),
 It 1 88 (.lda [(.int .u64), (.int .u64), (.int .u64), (.int .i64), .slice] (Tm 87)),
 It 2 10 (.alloc 27 [(.int .u64 0), (.int .u64 0), (.int .u64 0), (.int .i64 0), (.slice none 0 0)]),
 Jt 3 (.st 5 (Tm 10) (Tm 88))]
def c9r18 : List SI := [
 It 0 89 (.fa 4 (Tm 10)),
 It 1 90 (.ld .slice (Tm 89)),
 It 2 91 (.call 39 [(Tm 90)] (.one .slice)),
 It 3 92 (.fa 4 (Tm 10)),
 Jt 4 (.st 1 (Tm 92) (Tm 91))]
def c9r19 : List SI := [
 It 0 93 (.fa 3 (Tm 8)),
 It 1 94 (.ld .slice (Tm 93)),
 It 2 95 (.lda [(.int .u64), (.int .u64), (.int .u64), (.int .i64), .slice] (Tm 10)),
 It 3 96 (.bslice 27 1 [(.int .u64 0), (.int .u64 0), (.int .u64 0), (.int .i64 0), (.slice none 0 0)] [(0, 5, (Tm 95))]),
 It 4 97 (.app 27 5 56 [(.int .u64 0), (.int .u64 0), (.int .u64 0), (.int .i64 0), (.slice none 0 0)] (Tm 94) (Tm 96)),
 It 5 98 (.fa 3 (Tm 8)),
 Jt 6 (.st 1 (Tm 98) (Tm 97))]
def c9r20 : List SI := [
 It 0 99 (.bin .add (Tm 85) (K64 1)),
 It 1 85 (.mv (Tm 99))]
def c9l21 : SC := (.seq (.reg c9r16 none) (.seq (.cond (Tm 86) .skip (.exit 4)) (.seq (.block 5 (.seq (.reg c9r17 none) (.seq (.reg c9r18 none) (.reg c9r19 none)))) (.reg c9r20 none))))
def c9r22 : List SI := [
 It 0 100 (.fa 4 (Tm 3)),
 It 1 101 (.ld .slice (Tm 100)),
 It 2 102 (.lda [.str, (.int .i64), (.int .u64), .slice, .slice] (Tm 8)),
 It 3 103 (.bslice 69 1 [(.string ⟨#[]⟩), (.int .i64 0), (.int .u64 0), (.slice none 0 0), (.slice none 0 0)] [(0, 5, (Tm 102))]),
 It 4 104 (.app 69 5 80 [(.string ⟨#[]⟩), (.int .i64 0), (.int .u64 0), (.slice none 0 0), (.slice none 0 0)] (Tm 101) (Tm 103)),
 It 5 105 (.fa 4 (Tm 3)),
 Jt 6 (.st 1 (Tm 105) (Tm 104))]
def c9r23 : List SI := [
 It 0 106 (.bin .add (Tm 69) (K64 1)),
 It 1 69 (.mv (Tm 106))]
def c9l24 : SC := (.seq (.reg c9r12 none) (.seq (.cond (Tm 70) .skip (.exit 2)) (.seq (.block 3 (.seq (.reg c9r13 none) (.seq (.reg c9r14 (some c9m14)) (.seq (.seq (.reg c9r15 none) (.block 4 (.loop c9l21))) (.reg c9r22 none))))) (.reg c9r23 none))))
def c9r25 : List SI := [
 It 0 107 (.lda [(.int .i64), .slice, .slice, .slice, .slice, .slice] (Tm 3)),
 Jt 1 (.st 6 (Tm 2) (Tm 107))]
def c9 : SC := (.seq (.reg c9r0 none) (.seq (.seq (.reg c9r1 none) (.cond (Tm 12) (.seq (.reg c9r2 none) .ret) .skip)) (.seq (.reg c9r3 (some c9m3)) (.seq (.reg c9r4 (some c9m4)) (.seq (.seq (.reg c9r5 none) (.block 0 (.loop c9l10))) (.seq (.seq (.reg c9r11 none) (.block 2 (.loop c9l24))) (.seq (.reg c9r25 none) .ret)))))))
theorem c9_ok : compFn Tryz.prog c9D Tryz.f9 = some (c9, [.cella 2 [(.int .i64), .slice, .slice, .slice, .slice, .slice]]) := by kernel_rfl
def c10D : Nat → Option (List Nat) := fun _ => none
def c10r0 : List SI := [
 It 0 2 (.mv (.const (.pointer none)))]
def c10r1 : List SI := [
 It 0 4 (.mv (Tm 0)),
 It 1 5 (.nileq .ptr false (Tm 4) (.const (.pointer none)))]
def c10r2 : List SI := [
 It 0 2 (.mv (.const (.pointer none)))]
def c10r3 : List SI := [
 It 0 6 (.mv (Tm 0)),
 It 1 7 (.nilc (Tm 6)),
 It 2 8 (.lda [(.int .i64), .slice, .slice, .slice, .slice, .slice] (Tm 7)),
 It 3 3 (.alloc 76 [(.int .i64 0), (.slice none 0 0), (.slice none 0 0), (.slice none 0 0), (.slice none 0 0), (.slice none 0 0)]),
 Jt 4 (.st 6 (Tm 3) (Tm 8))]
def c10r4 : List SI := [
 It 0 2 (.mv (Tm 3))]
def c10 : SC := (.seq (.reg c10r0 none) (.seq (.seq (.reg c10r1 none) (.cond (Tm 5) (.seq (.reg c10r2 none) .ret) .skip)) (.seq (.reg c10r3 none) (.seq (.reg c10r4 none) .ret))))
theorem c10_ok : compFn Tryz.prog c10D Tryz.f10 = some (c10, [.tmp 2]) := by kernel_rfl
def c11D : Nat → Option (List Nat) := fun _ => none
def c11r0 : List SI := [
 It 0 1 (.box 27 (Tm 0)),
 It 1 2 (.mv (K64 0))]
def c11r1 : List SI := [
 It 0 3 (.lda [(.int .u64), (.int .u64), (.int .u64), (.int .i64), .slice] (Tm 1)),
 It 1 4 (.call 40 [(Tm 3)] (.one .slice)),
 It 2 5 (.len false (Tm 4)),
 It 3 6 (.bin .add (K64 16) (Tm 5)),
 It 4 2 (.mv (Tm 6))]
def c11 : SC := (.seq (.reg c11r0 none) (.seq (.reg c11r1 none) .ret))
theorem c11_ok : compFn Tryz.prog c11D Tryz.f11 = some (c11, [.tmp 2]) := by kernel_rfl
def c12D : Nat → Option (List Nat) := fun _ => none
def c12r0 : List SI := [
 It 0 1 (.box 27 (Tm 0)),
 It 1 2 (.mv (K64 0))]
def c12r1 : List SI := [
 It 0 3 (.lda [(.int .u64), (.int .u64), (.int .u64), (.int .i64), .slice] (Tm 1)),
 It 1 4 (.call 41 [(Tm 3)] (.one .slice)),
 It 2 5 (.len false (Tm 4)),
 It 3 6 (.bin .add (K64 16) (Tm 5)),
 It 4 2 (.mv (Tm 6))]
def c12 : SC := (.seq (.reg c12r0 none) (.seq (.reg c12r1 none) .ret))
theorem c12_ok : compFn Tryz.prog c12D Tryz.f12 = some (c12, [.tmp 2]) := by kernel_rfl
def c13D : Nat → Option (List Nat) := fun _ => none
def c13r0 : List SI := [
 It 0 0 (.mv (.const (.pointer none)))]
def c13r1 : List SI := [
 It 0 1 (.call 42 [] (.agg [(.int .i64), .slice, .slice])),
 It 1 2 (.build [(.int .i64 0), (.slice none 0 0), (.slice none 0 0), (.slice none 0 0), (.slice none 0 0), (.slice none 0 0)] [(0, 3, (Tm 1))]),
 It 2 3 (.box 76 (Tm 2)),
 It 3 0 (.mv (Tm 3))]
def c13 : SC := (.seq (.reg c13r0 none) (.seq (.reg c13r1 none) .ret))
theorem c13_ok : compFn Tryz.prog c13D Tryz.f13 = some (c13, [.tmp 0]) := by kernel_rfl
def c14D : Nat → Option (List Nat) := fun _ => none
def c14r0 : List SI := [
 It 0 6 (.mv (KB false))]
def c14r1 : List SI := [
 It 0 8 (.mv (Tm 0)),
 It 1 9 (.len false (Tm 8)),
 It 2 10 (.mv (Tm 1)),
 It 3 11 (.len false (Tm 10)),
 It 4 12 (.bin .neq (Tm 9) (Tm 11))]
def c14r2 : List SI := [
 It 0 6 (.mv (KB false))]
def c14r3 : List SI := [
 It 0 7 (.mv (K64 0))]
def c14r4 : List SI := [
 It 0 13 (.mv (Tm 7)),
 It 1 14 (.mv (Tm 0)),
 It 2 15 (.len false (Tm 14)),
 It 3 16 (.bin .lss (Tm 13) (Tm 15))]
def c14r5 : List SI := [
 It 0 19 (.mv (Tm 2)),
 It 1 20 (.mv (Tm 0)),
 It 2 21 (.mv (Tm 7)),
 It 3 22 (.ia 5 (Tm 20) (Tm 21)),
 It 4 23 (.lda [(.int .u64), (.int .u64), (.int .u64), (.int .i64), .slice] (Tm 22)),
 It 5 24 (.mv (Tm 1)),
 It 6 25 (.mv (Tm 7)),
 It 7 26 (.ia 5 (Tm 24) (Tm 25)),
 It 8 27 (.lda [(.int .u64), (.int .u64), (.int .u64), (.int .i64), .slice] (Tm 26)),
 It 9 28 (.callv (Tm 19) [(Tm 23), (Tm 27)] (.one .bool)),
 It 10 29 (.notb (Tm 28))]
def c14r6 : List SI := [
 It 0 6 (.mv (KB false))]
def c14r7 : List SI := [
 It 0 17 (.mv (Tm 7)),
 It 1 18 (.bin .add (Tm 17) (K64 1)),
 It 2 7 (.mv (Tm 18))]
def c14l8 : SC := (.seq (.seq (.reg c14r4 none) (.cond (Tm 16) .skip (.exit 0))) (.seq (.block 1 (.seq (.reg c14r5 none) (.cond (Tm 29) (.seq (.reg c14r6 none) .ret) .skip))) (.reg c14r7 none)))
def c14r9 : List SI := [
 It 0 6 (.mv (KB true))]
def c14 : SC := (.seq (.reg c14r0 none) (.seq (.seq (.reg c14r1 none) (.cond (Tm 12) (.seq (.reg c14r2 none) .ret) .skip)) (.seq (.seq (.reg c14r3 none) (.block 0 (.loop c14l8))) (.seq (.reg c14r9 none) .ret))))
theorem c14_ok : compFn Tryz.prog c14D Tryz.f14 = some (c14, [.tmp 6]) := by kernel_rfl
def c16D : Nat → Option (List Nat) := fun _ => none
def c16r0 : List SI := [
 It 0 2 (.alloc 35 [(.int .i64 0), (.int .i64 0), (.int .i64 0), (.int .u64 0), (.string ⟨#[]⟩), (.slice none 0 0)])]
def c16r1 : List SI := [
 It 0 3 (.mv (Tm 0)),
 It 1 4 (.build [(.int .i64 0), (.int .i64 0), (.int .i64 0), (.int .u64 0), (.string ⟨#[]⟩), (.slice none 0 0)] [(0, 1, (Tm 3))]),
 Jt 2 (.st 6 (Tm 2) (Tm 4))]
def c16 : SC := (.seq (.reg c16r0 none) (.seq (.reg c16r1 none) .ret))
theorem c16_ok : compFn Tryz.prog c16D Tryz.f16 = some (c16, [.cella 2 [(.int .i64), (.int .i64), (.int .i64), (.int .u64), .str, .slice]]) := by kernel_rfl
def c19D (id : Nat) : Option (List Nat) := if id = 10 then some [0, 1, 2, 3, 4, 6, 7, 8, 9, 10, 11, 12, 13, 5, 14, 15, 16, 17, 18] else none
def c19r0 : List SI := [
 It 0 3 (.box 25 (Tm 1)),
 It 1 4 (.alloc 35 [(.int .i64 0), (.int .i64 0), (.int .i64 0), (.int .u64 0), (.string ⟨#[]⟩), (.slice none 0 0)])]
def c19r1 : List SI := [
 It 0 10 (.fa 1 (Tm 3)),
 It 1 11 (.ld .str (Tm 10)),
 It 2 12 (.call 46 [(Tm 11)] (.one .bool)),
 It 3 13 (.notb (Tm 12)),
 St 4 14 (.mv (Tm 13)),
 Gt 5 15 14 false (.fa 2 (Tm 3)),
 Gt 6 16 14 false (.ld .str (Tm 15)),
 Gt 7 17 14 false (.call 47 [(Tm 16)] (.one .bool)),
 Gt 8 18 14 false (.notb (Tm 17)),
 It 9 19 (.pick (Tm 14) (KB true) (Tm 18))]
def c19r2 : List SI := [
 It 0 20 (.call 16 [(K64 6)] (.agg [(.int .i64), (.int .i64), (.int .i64), (.int .u64), .str, .slice])),
 Jt 1 (.st 6 (Tm 4) (Tm 20))]
def c19r3 : List SI := [
 It 0 22 (.mv (Tm 0)),
 It 1 23 (.fa 1 (Tm 3)),
 It 2 24 (.ld .str (Tm 23)),
 It 3 25 (.call 48 [(Tm 22), (Tm 24)] (.tup [(.one (.int .i64)), (.one .bool)])),
 It 4 21 (.mv (Tm 25)),
 It 5 26 (.ext (Tm 21) 0),
 It 6 27 (.ext (Tm 21) 1),
 It 7 5 (.mv (Tm 26)),
 It 8 6 (.mv (Tm 27))]
def c19r4 : List SI := [
 It 0 29 (.fa 4 (Tm 3)),
 It 1 30 (.ld (.int .i64) (Tm 29)),
 It 2 31 (.bin .lss (Tm 30) (K64 1)),
 St 3 32 (.mv (Tm 31)),
 Gt 4 33 32 false (.fa 4 (Tm 3)),
 Gt 5 34 32 false (.ld (.int .i64) (Tm 33)),
 Gt 6 35 32 false (.bin .gtr (Tm 34) (K64 4)),
 It 7 36 (.pick (Tm 32) (KB true) (Tm 35)),
 It 8 28 (.mv (Tm 36))]
def c19r5 : List SI := [
 It 0 37 (.call 16 [(K64 1)] (.agg [(.int .i64), (.int .i64), (.int .i64), (.int .u64), .str, .slice])),
 Jt 1 (.st 6 (Tm 4) (Tm 37))]
def c19r6 : List SI := [
 It 0 39 (.mv (Tm 6)),
 It 1 38 (.mv (Tm 39))]
def c19r7 : List SI := [
 It 0 40 (.call 16 [(K64 7)] (.agg [(.int .i64), (.int .i64), (.int .i64), (.int .u64), .str, .slice])),
 Jt 1 (.st 6 (Tm 4) (Tm 40))]
def c19r8 : List SI := [
 It 0 42 (.mv (Tm 0)),
 It 1 43 (.nilc (Tm 42)),
 It 2 44 (.fa 3 (Tm 43)),
 It 3 45 (.ld .slice (Tm 44)),
 It 4 46 (.len false (Tm 45)),
 It 5 47 (.bin .geq (Tm 46) (K64 8)),
 It 6 41 (.mv (Tm 47))]
def c19r9 : List SI := [
 It 0 48 (.call 16 [(K64 5)] (.agg [(.int .i64), (.int .i64), (.int .i64), (.int .u64), .str, .slice])),
 Jt 1 (.st 6 (Tm 4) (Tm 48))]
def c19m10 : List (List Nat) := [[], [], [1], [1, 2], [1, 2, 3], [1, 2, 3, 4], [], [], [7], [], [9], [], [11], [7, 8, 9, 10, 11, 12], [7, 8, 9, 10, 11, 12, 13], [1, 2, 3, 4, 5, 6, 7, 8, 9, 10, 11, 12, 13, 14], [0, 1, 2, 3, 4, 5, 6, 7, 8, 9, 10, 11, 12, 13, 14, 15], [0, 1, 2, 3, 4, 5, 6, 7, 8, 9, 10, 11, 12, 13, 14, 15, 16], [0, 1, 2, 3, 4, 5, 6, 7, 8, 9, 10, 11, 12, 13, 14, 15, 16, 17]]
def c19r10 : List SI := [
 It 0 49 (.mv (Tm 0)),
 It 1 50 (.mv (Tm 0)),
 It 2 51 (.nilc (Tm 50)),
 It 3 52 (.fa 3 (Tm 51)),
 It 4 53 (.ld .slice (Tm 52)),
 It 6 55 (.mv (Tm 5)),
 It 7 56 (.fa 1 (Tm 3)),
 It 8 57 (.ld .str (Tm 56)),
 It 9 58 (.fa 2 (Tm 3)),
 It 10 59 (.ld .str (Tm 58)),
 It 11 60 (.fa 4 (Tm 3)),
 It 12 61 (.ld (.int .i64) (Tm 60)),
 It 13 62 (.build [(.string ⟨#[]⟩), (.string ⟨#[]⟩), (.int .i64 0)] [(0, 1, (Tm 57)), (1, 1, (Tm 59)), (2, 1, (Tm 61))]),
 It 5 54 (.call 32 [(Tm 53)] (.one .slice)),
 It 14 63 (.bslice 65 1 [(.string ⟨#[]⟩), (.string ⟨#[]⟩), (.int .i64 0)] [(0, 3, (Tm 62))]),
 It 15 64 (.call 49 [(Tm 54), (Tm 55), (Tm 63)] (.one .slice)),
 It 16 65 (.nilc (Tm 49)),
 It 17 66 (.fa 3 (Tm 65)),
 Jt 18 (.st 1 (Tm 66) (Tm 64))]
def c19r11 : List SI := [
 It 0 7 (.mv (K64 0))]
def c19r12 : List SI := [
 It 0 67 (.mv (Tm 7)),
 It 1 68 (.mv (Tm 0)),
 It 2 69 (.nilc (Tm 68)),
 It 3 70 (.fa 4 (Tm 69)),
 It 4 71 (.ld .slice (Tm 70)),
 It 5 72 (.len false (Tm 71)),
 It 6 73 (.bin .lss (Tm 67) (Tm 72)),
 St 7 74 (.mv (Tm 73)),
 Gt 8 75 74 true (.mv (Tm 0)),
 Gt 9 76 74 true (.nilc (Tm 75)),
 Gt 10 77 74 true (.fa 4 (Tm 76)),
 Gt 11 78 74 true (.ld .slice (Tm 77)),
 Gt 12 79 74 true (.mv (Tm 7)),
 Gt 13 80 74 true (.ia 4 (Tm 78) (Tm 79)),
 Gt 14 81 74 true (.fa 0 (Tm 80)),
 Gt 15 82 74 true (.ld .str (Tm 81)),
 Gt 16 83 74 true (.fa 1 (Tm 3)),
 Gt 17 84 74 true (.ld .str (Tm 83)),
 Gt 18 85 74 true (.sop .lss (Tm 82) (Tm 84)),
 It 19 86 (.pick (Tm 74) (Tm 85) (KB false))]
def c19r13 : List SI := [
 It 0 87 (.mv (Tm 7)),
 It 1 88 (.bin .add (Tm 87) (K64 1)),
 It 2 7 (.mv (Tm 88))]
def c19l14 : SC := (.seq (.seq (.reg c19r12 none) (.cond (Tm 86) .skip (.exit 1))) (.block 2 (.reg c19r13 none)))
def c19r15 : List SI := [
 It 0 8 (.mv (.const (.slice none 0 0)))]
def c19r16 : List SI := [
 It 0 89 (.fa 4 (Tm 3)),
 It 1 90 (.ld (.int .i64) (Tm 89)),
 It 2 91 (.mv (K64 0))]
def c19r17 : List SI := [
 It 0 92 (.bin .lss (Tm 91) (Tm 90))]
def c19r18 : List SI := [
 It 0 93 (.mv (Tm 91)),
 It 1 9 (.mv (Tm 93))]
def c19r19 : List SI := [
 It 0 94 (.mv (Tm 8)),
 It 1 95 (.fa 1 (Tm 3)),
 It 2 96 (.ld .str (Tm 95)),
 It 3 97 (.mv (Tm 9)),
 It 4 98 (.build [(.string ⟨#[]⟩), (.int .i64 0), (.slice none 0 0), (.slice none 0 0)] [(0, 1, (Tm 96)), (1, 1, (Tm 97))]),
 It 5 99 (.bslice 88 1 [(.string ⟨#[]⟩), (.int .i64 0), (.slice none 0 0), (.slice none 0 0)] [(0, 4, (Tm 98))]),
 It 6 100 (.app 88 4 72 [(.string ⟨#[]⟩), (.int .i64 0), (.slice none 0 0), (.slice none 0 0)] (Tm 94) (Tm 99)),
 It 7 8 (.mv (Tm 100))]
def c19r20 : List SI := [
 It 0 101 (.bin .add (Tm 91) (K64 1)),
 It 1 91 (.mv (Tm 101))]
def c19l21 : SC := (.seq (.reg c19r17 none) (.seq (.cond (Tm 92) .skip (.exit 3)) (.seq (.block 4 (.seq (.reg c19r18 none) (.reg c19r19 none))) (.reg c19r20 none))))
def c19r22 : List SI := [
 It 0 102 (.mv (Tm 0)),
 It 1 103 (.mv (Tm 0)),
 It 2 104 (.nilc (Tm 103)),
 It 3 105 (.fa 4 (Tm 104)),
 It 4 106 (.ld .slice (Tm 105)),
 It 5 107 (.call 51 [(Tm 106)] (.one .slice)),
 It 6 108 (.mv (Tm 7)),
 It 7 109 (.mv (Tm 8)),
 It 8 110 (.call 50 [(Tm 107), (Tm 108), (Tm 109)] (.one .slice)),
 It 9 111 (.nilc (Tm 102)),
 It 10 112 (.fa 4 (Tm 111)),
 Jt 11 (.st 1 (Tm 112) (Tm 110))]
def c19r23 : List SI := [
 It 0 113 (.fa 4 (Tm 3)),
 It 1 114 (.ld (.int .i64) (Tm 113)),
 It 2 115 (.build [(.int .i64 0), (.int .i64 0), (.int .i64 0), (.int .u64 0), (.string ⟨#[]⟩), (.slice none 0 0)] [(1, 1, (Tm 114))]),
 Jt 3 (.st 6 (Tm 4) (Tm 115))]
def c19 : SC := (.seq (.reg c19r0 none) (.seq (.seq (.reg c19r1 none) (.cond (Tm 19) (.seq (.reg c19r2 none) .ret) .skip)) (.seq (.reg c19r3 none) (.seq (.block 0 (.seq (.reg c19r4 none) (.cond (Tm 28) (.seq (.reg c19r5 none) .ret) (.seq (.reg c19r6 none) (.cond (Tm 38) (.seq (.reg c19r7 none) .ret) (.seq (.reg c19r8 none) (.cond (Tm 41) (.seq (.reg c19r9 none) .ret) .skip))))))) (.seq (.reg c19r10 (some c19m10)) (.seq (.reg c19r11 none) (.seq (.block 1 (.loop c19l14)) (.seq (.reg c19r15 none) (.seq (.seq (.reg c19r16 none) (.block 3 (.loop c19l21))) (.seq (.reg c19r22 none) (.seq (.reg c19r23 none) .ret)))))))))))
theorem c19_ok : compFn Tryz.prog c19D Tryz.f19 = some (c19, [.cella 4 [(.int .i64), (.int .i64), (.int .i64), (.int .u64), .str, .slice]]) := by kernel_rfl
def c27D : Nat → Option (List Nat) := fun _ => none
def c27r0 : List SI := [
 It 0 2 (.box 41 (Tm 0)),
 It 1 3 (.box 41 (Tm 1)),
 It 2 4 (.mv (KB false))]
def c27r1 : List SI := [
 It 0 5 (.fa 0 (Tm 2)),
 It 1 6 (.ld (.int .i64) (Tm 5)),
 It 2 7 (.fa 0 (Tm 3)),
 It 3 8 (.ld (.int .i64) (Tm 7)),
 It 4 9 (.bin .eql (Tm 6) (Tm 8)),
 St 5 10 (.mv (Tm 9)),
 Gt 6 11 10 true (.fa 1 (Tm 2)),
 Gt 7 12 10 true (.ld .slice (Tm 11)),
 Gt 8 13 10 true (.fa 1 (Tm 3)),
 Gt 9 14 10 true (.ld .slice (Tm 13)),
 Gt 10 15 10 true (.call 68 [(Tm 12), (Tm 14)] (.one .bool)),
 It 11 16 (.pick (Tm 10) (Tm 15) (KB false)),
 St 12 17 (.mv (Tm 16)),
 Gt 13 18 17 true (.fa 2 (Tm 2)),
 Gt 14 19 17 true (.ld .slice (Tm 18)),
 Gt 15 20 17 true (.fa 2 (Tm 3)),
 Gt 16 21 17 true (.ld .slice (Tm 20)),
 Gt 17 22 17 true (.call 69 [(Tm 19), (Tm 21), (.func 70)] (.one .bool)),
 It 18 23 (.pick (Tm 17) (Tm 22) (KB false)),
 It 19 4 (.mv (Tm 23))]
def c27 : SC := (.seq (.reg c27r0 none) (.seq (.reg c27r1 none) .ret))
theorem c27_ok : compFn Tryz.prog c27D Tryz.f27 = some (c27, [.tmp 4]) := by kernel_rfl
def c28D : Nat → Option (List Nat) := fun _ => none
def c28r0 : List SI := [
 It 0 4 (.mv (KB false))]
def c28r1 : List SI := [
 It 0 5 (.mv (Tm 0)),
 It 1 6 (.mv (Tm 1)),
 It 2 7 (.call 71 [(Tm 5), (Tm 6), (.func 72)] (.one .bool)),
 It 3 4 (.mv (Tm 7))]
def c28 : SC := (.seq (.reg c28r0 none) (.seq (.reg c28r1 none) .ret))
theorem c28_ok : compFn Tryz.prog c28D Tryz.f28 = some (c28, [.tmp 4]) := by kernel_rfl
def c29D : Nat → Option (List Nat) := fun _ => none
def c29r0 : List SI := [
 It 0 6 (.mv (KB false))]
def c29r1 : List SI := [
 It 0 8 (.mv (Tm 0)),
 It 1 9 (.len false (Tm 8)),
 It 2 10 (.mv (Tm 1)),
 It 3 11 (.len false (Tm 10)),
 It 4 12 (.bin .neq (Tm 9) (Tm 11))]
def c29r2 : List SI := [
 It 0 6 (.mv (KB false))]
def c29r3 : List SI := [
 It 0 7 (.mv (K64 0))]
def c29r4 : List SI := [
 It 0 13 (.mv (Tm 7)),
 It 1 14 (.mv (Tm 0)),
 It 2 15 (.len false (Tm 14)),
 It 3 16 (.bin .lss (Tm 13) (Tm 15))]
def c29r5 : List SI := [
 It 0 19 (.mv (Tm 2)),
 It 1 20 (.mv (Tm 0)),
 It 2 21 (.mv (Tm 7)),
 It 3 22 (.ia 5 (Tm 20) (Tm 21)),
 It 4 23 (.lda [.str, (.int .i64), (.int .u64), .slice, .slice] (Tm 22)),
 It 5 24 (.mv (Tm 1)),
 It 6 25 (.mv (Tm 7)),
 It 7 26 (.ia 5 (Tm 24) (Tm 25)),
 It 8 27 (.lda [.str, (.int .i64), (.int .u64), .slice, .slice] (Tm 26)),
 It 9 28 (.callv (Tm 19) [(Tm 23), (Tm 27)] (.one .bool)),
 It 10 29 (.notb (Tm 28))]
def c29r6 : List SI := [
 It 0 6 (.mv (KB false))]
def c29r7 : List SI := [
 It 0 17 (.mv (Tm 7)),
 It 1 18 (.bin .add (Tm 17) (K64 1)),
 It 2 7 (.mv (Tm 18))]
def c29l8 : SC := (.seq (.seq (.reg c29r4 none) (.cond (Tm 16) .skip (.exit 0))) (.seq (.block 1 (.seq (.reg c29r5 none) (.cond (Tm 29) (.seq (.reg c29r6 none) .ret) .skip))) (.reg c29r7 none)))
def c29r9 : List SI := [
 It 0 6 (.mv (KB true))]
def c29 : SC := (.seq (.reg c29r0 none) (.seq (.seq (.reg c29r1 none) (.cond (Tm 12) (.seq (.reg c29r2 none) .ret) .skip)) (.seq (.seq (.reg c29r3 none) (.block 0 (.loop c29l8))) (.seq (.reg c29r9 none) .ret))))
theorem c29_ok : compFn Tryz.prog c29D Tryz.f29 = some (c29, [.tmp 6]) := by kernel_rfl
def c31D : Nat → Option (List Nat) := fun _ => none
def c31r0 : List SI := [
 It 0 4 (.mv (KB false))]
def c31r1 : List SI := [
 It 0 5 (.mv (Tm 0)),
 It 1 6 (.mv (Tm 1)),
 It 2 7 (.call 74 [(Tm 5), (Tm 6), (.func 75)] (.one .bool)),
 It 3 4 (.mv (Tm 7))]
def c31 : SC := (.seq (.reg c31r0 none) (.seq (.reg c31r1 none) .ret))
theorem c31_ok : compFn Tryz.prog c31D Tryz.f31 = some (c31, [.tmp 4]) := by kernel_rfl
def c32D : Nat → Option (List Nat) := fun _ => none
def c32r0 : List SI := [
 It 0 2 (.mv (.const (.slice none 0 0)))]
def c32r1 : List SI := [
 It 0 3 (.mv (Tm 0)),
 It 1 4 (.nileq .slice false (Tm 3) (.const (.slice none 0 0)))]
def c32r2 : List SI := [
 It 0 2 (.mv (.const (.slice none 0 0)))]
def c32r3 : List SI := [
 It 0 5 (.bslice 65 0 [] []),
 It 1 6 (.mv (Tm 0)),
 It 2 7 (.app 65 3 40 [(.string ⟨#[]⟩), (.string ⟨#[]⟩), (.int .i64 0)] (Tm 5) (Tm 6)),
 It 3 2 (.mv (Tm 7))]
def c32 : SC := (.seq (.reg c32r0 none) (.seq (.seq (.reg c32r1 none) (.cond (Tm 4) (.seq (.reg c32r2 none) .ret) .skip)) (.seq (.reg c32r3 none) .ret)))
theorem c32_ok : compFn Tryz.prog c32D Tryz.f32 = some (c32, [.tmp 2]) := by kernel_rfl
def c33D : Nat → Option (List Nat) := fun _ => none
def c33r0 : List SI := [
 It 0 2 (.mv (.const (.slice none 0 0)))]
def c33r1 : List SI := [
 It 0 3 (.mv (Tm 0)),
 It 1 4 (.nileq .slice false (Tm 3) (.const (.slice none 0 0)))]
def c33r2 : List SI := [
 It 0 2 (.mv (.const (.slice none 0 0)))]
def c33r3 : List SI := [
 It 0 5 (.bslice 73 0 [] []),
 It 1 6 (.mv (Tm 0)),
 It 2 7 (.app 73 4 48 [(.string ⟨#[]⟩), (.string ⟨#[]⟩), (.int .i64 0), (.int .u64 0)] (Tm 5) (Tm 6)),
 It 3 2 (.mv (Tm 7))]
def c33 : SC := (.seq (.reg c33r0 none) (.seq (.seq (.reg c33r1 none) (.cond (Tm 4) (.seq (.reg c33r2 none) .ret) .skip)) (.seq (.reg c33r3 none) .ret)))
theorem c33_ok : compFn Tryz.prog c33D Tryz.f33 = some (c33, [.tmp 2]) := by kernel_rfl
def c34D : Nat → Option (List Nat) := fun _ => none
def c34r0 : List SI := [
 It 0 2 (.mv (.const (.slice none 0 0)))]
def c34r1 : List SI := [
 It 0 3 (.mv (Tm 0)),
 It 1 4 (.nileq .slice false (Tm 3) (.const (.slice none 0 0)))]
def c34r2 : List SI := [
 It 0 2 (.mv (.const (.slice none 0 0)))]
def c34r3 : List SI := [
 It 0 5 (.bslice 9 0 [] []),
 It 1 6 (.mv (Tm 0)),
 It 2 7 (.app 9 1 16 [(.string ⟨#[]⟩)] (Tm 5) (Tm 6)),
 It 3 2 (.mv (Tm 7))]
def c34 : SC := (.seq (.reg c34r0 none) (.seq (.seq (.reg c34r1 none) (.cond (Tm 4) (.seq (.reg c34r2 none) .ret) .skip)) (.seq (.reg c34r3 none) .ret)))
theorem c34_ok : compFn Tryz.prog c34D Tryz.f34 = some (c34, [.tmp 2]) := by kernel_rfl
def c35D : Nat → Option (List Nat) := fun _ => none
def c35r0 : List SI := [
 It 0 2 (.mv (.const (.slice none 0 0)))]
def c35r1 : List SI := [
 It 0 3 (.mv (Tm 0)),
 It 1 4 (.nileq .slice false (Tm 3) (.const (.slice none 0 0)))]
def c35r2 : List SI := [
 It 0 2 (.mv (.const (.slice none 0 0)))]
def c35r3 : List SI := [
 It 0 5 (.bslice 83 0 [] []),
 It 1 6 (.mv (Tm 0)),
 It 2 7 (.app 83 3 48 [(.string ⟨#[]⟩), (.int .i64 0), (.slice none 0 0)] (Tm 5) (Tm 6)),
 It 3 2 (.mv (Tm 7))]
def c35 : SC := (.seq (.reg c35r0 none) (.seq (.seq (.reg c35r1 none) (.cond (Tm 4) (.seq (.reg c35r2 none) .ret) .skip)) (.seq (.reg c35r3 none) .ret)))
theorem c35_ok : compFn Tryz.prog c35D Tryz.f35 = some (c35, [.tmp 2]) := by kernel_rfl
def c37D : Nat → Option (List Nat) := fun _ => none
def c37r0 : List SI := [
 It 0 2 (.mv (.const (.int .u64 0)))]
def c37r1 : List SI := [
 It 0 3 (.mv (Tm 0)),
 It 1 4 (.nilc (Tm 3)),
 It 2 5 (.fa 3 (Tm 4)),
 It 3 6 (.ld .slice (Tm 5)),
 It 4 7 (.len false (Tm 6)),
 It 5 8 (.bin .eql (Tm 7) (K64 0))]
def c37r2 : List SI := [
 It 0 2 (.mv (.const (.int .u64 0)))]
def c37r3 : List SI := [
 It 0 9 (.mv (Tm 0)),
 It 1 10 (.nilc (Tm 9)),
 It 2 11 (.fa 3 (Tm 10)),
 It 3 12 (.ld .slice (Tm 11)),
 It 4 13 (.ia 2 (Tm 12) (K64 0)),
 It 5 14 (.fa 0 (Tm 13)),
 It 6 15 (.ld (.int .u64) (Tm 14)),
 It 7 2 (.mv (Tm 15))]
def c37 : SC := (.seq (.reg c37r0 none) (.seq (.seq (.reg c37r1 none) (.cond (Tm 8) (.seq (.reg c37r2 none) .ret) .skip)) (.seq (.reg c37r3 none) .ret)))
theorem c37_ok : compFn Tryz.prog c37D Tryz.f37 = some (c37, [.tmp 2]) := by kernel_rfl
def c38D : Nat → Option (List Nat) := fun _ => none
def c38r0 : List SI := [
 It 0 2 (.mv (.const (.slice none 0 0)))]
def c38r1 : List SI := [
 It 0 3 (.mv (Tm 0)),
 It 1 4 (.nileq .slice false (Tm 3) (.const (.slice none 0 0)))]
def c38r2 : List SI := [
 It 0 2 (.mv (.const (.slice none 0 0)))]
def c38r3 : List SI := [
 It 0 5 (.bslice 92 0 [] []),
 It 1 6 (.mv (Tm 0)),
 It 2 7 (.app 92 2 16 [(.int .u64 0), (.int .i64 0)] (Tm 5) (Tm 6)),
 It 3 2 (.mv (Tm 7))]
def c38 : SC := (.seq (.reg c38r0 none) (.seq (.seq (.reg c38r1 none) (.cond (Tm 4) (.seq (.reg c38r2 none) .ret) .skip)) (.seq (.reg c38r3 none) .ret)))
theorem c38_ok : compFn Tryz.prog c38D Tryz.f38 = some (c38, [.tmp 2]) := by kernel_rfl
def c40D (id : Nat) : Option (List Nat) := if id = 1 then some [0, 1, 3, 4, 6, 7, 9, 10, 2, 5, 8, 11, 12, 13, 14] else none
def c40r0 : List SI := [
 It 0 1 (.box 27 (Tm 0)),
 It 1 2 (.mv (.const (.slice none 0 0)))]
def c40m1 : List (List Nat) := [[], [0], [0, 1], [], [3], [0, 1, 2, 3, 4], [], [6], [0, 1, 2, 3, 4, 5, 6, 7], [], [9], [0, 1, 2, 3, 4, 5, 6, 7, 8, 9, 10], [0, 1, 2, 3, 4, 5, 6, 7, 8, 9, 10, 11], [0, 1, 2, 3, 4, 5, 6, 7, 8, 9, 10, 11, 12], [0, 1, 2, 3, 4, 5, 6, 7, 8, 9, 10, 11, 12, 13]]
def c40r1 : List SI := [
 It 0 3 (.fa 1 (Tm 1)),
 It 1 4 (.ld (.int .u64) (Tm 3)),
 It 3 6 (.fa 2 (Tm 1)),
 It 4 7 (.ld (.int .u64) (Tm 6)),
 It 6 9 (.fa 3 (Tm 1)),
 It 7 10 (.ld (.int .i64) (Tm 9)),
 It 9 12 (.fa 4 (Tm 1)),
 It 10 13 (.ld .slice (Tm 12)),
 It 2 5 (.call 77 [(Tm 4)] (.one .slice)),
 It 5 8 (.call 77 [(Tm 7)] (.one .slice)),
 It 8 11 (.call 78 [(Tm 10)] (.one .slice)),
 It 11 14 (.call 79 [(Tm 13)] (.one .slice)),
 It 12 15 (.bslice 23 4 [(.slice none 0 0), (.slice none 0 0), (.slice none 0 0), (.slice none 0 0)] [(0, 1, (Tm 5)), (1, 1, (Tm 8)), (2, 1, (Tm 11)), (3, 1, (Tm 14))]),
 It 13 16 (.call 76 [(Tm 15)] (.one .slice)),
 It 14 2 (.mv (Tm 16))]
def c40 : SC := (.seq (.reg c40r0 none) (.seq (.reg c40r1 (some c40m1)) .ret))
theorem c40_ok : compFn Tryz.prog c40D Tryz.f40 = some (c40, [.tmp 2]) := by kernel_rfl
def c41D (id : Nat) : Option (List Nat) := if id = 1 then some [0, 1, 3, 4, 2, 5, 6, 7] else none
def c41r0 : List SI := [
 It 0 1 (.box 27 (Tm 0)),
 It 1 2 (.mv (.const (.slice none 0 0)))]
def c41m1 : List (List Nat) := [[], [0], [0, 1], [], [3], [0, 1, 2, 3, 4], [0, 1, 2, 3, 4, 5], [0, 1, 2, 3, 4, 5, 6]]
def c41r1 : List SI := [
 It 0 4 (.fa 1 (Tm 1)),
 It 1 5 (.ld (.int .u64) (Tm 4)),
 It 3 7 (.fa 2 (Tm 1)),
 It 4 8 (.ld (.int .u64) (Tm 7)),
 It 2 6 (.call 80 [(Tm 5)] (.one .slice)),
 It 5 9 (.call 80 [(Tm 8)] (.one .slice)),
 It 6 10 (.app 5 1 1 [(.int .u8 0)] (Tm 6) (Tm 9)),
 It 7 3 (.mv (Tm 10))]
def c41r2 : List SI := [
 It 0 11 (.mv (Tm 3)),
 It 1 12 (.fa 3 (Tm 1)),
 It 2 13 (.ld (.int .i64) (Tm 12)),
 It 3 14 (.call 81 [(Tm 13)] (.one .slice)),
 It 4 15 (.app 5 1 1 [(.int .u8 0)] (Tm 11) (Tm 14)),
 It 5 3 (.mv (Tm 15))]
def c41r3 : List SI := [
 It 0 16 (.mv (Tm 3)),
 It 1 17 (.fa 4 (Tm 1)),
 It 2 18 (.ld .slice (Tm 17)),
 It 3 19 (.call 82 [(Tm 18)] (.one .slice)),
 It 4 20 (.app 5 1 1 [(.int .u8 0)] (Tm 16) (Tm 19)),
 It 5 2 (.mv (Tm 20))]
def c41 : SC := (.seq (.reg c41r0 none) (.seq (.reg c41r1 (some c41m1)) (.seq (.reg c41r2 none) (.seq (.reg c41r3 none) .ret))))
theorem c41_ok : compFn Tryz.prog c41D Tryz.f41 = some (c41, [.tmp 2]) := by kernel_rfl
def c42D : Nat → Option (List Nat) := fun _ => none
def c42r0 : List SI := [
 It 0 0 (.alloc 41 [(.int .i64 0), (.slice none 0 0), (.slice none 0 0)])]
def c42r1 : List SI := [
 It 0 1 (.build [(.int .i64 0), (.slice none 0 0), (.slice none 0 0)] [(0, 1, (K64 1))]),
 Jt 1 (.st 3 (Tm 0) (Tm 1))]
def c42 : SC := (.seq (.reg c42r0 none) (.seq (.reg c42r1 none) .ret))
theorem c42_ok : compFn Tryz.prog c42D Tryz.f42 = some (c42, [.cella 0 [(.int .i64), .slice, .slice]]) := by kernel_rfl
def c46D : Nat → Option (List Nat) := fun _ => none
def c46r0 : List SI := [
 It 0 2 (.mv (KB false))]
def c46r1 : List SI := [
 It 0 3 (.mv (Tm 0)),
 It 1 4 (.call 89 [(Tm 3)] (.one .bool)),
 St 2 5 (.mv (Tm 4)),
 Gt 3 6 5 true (.mv (Tm 0)),
 Gt 4 7 5 true (.len true (Tm 6)),
 Gt 5 8 5 true (.bin .leq (Tm 7) (K64 40)),
 It 6 9 (.pick (Tm 5) (Tm 8) (KB false)),
 It 7 2 (.mv (Tm 9))]
def c46 : SC := (.seq (.reg c46r0 none) (.seq (.reg c46r1 none) .ret))
theorem c46_ok : compFn Tryz.prog c46D Tryz.f46 = some (c46, [.tmp 2]) := by kernel_rfl
def c47D : Nat → Option (List Nat) := fun _ => none
def c47r0 : List SI := [
 It 0 2 (.alloc 4 [(.bool false)])]
def c47r1 : List SI := [
 It 0 4 (.mv (Tm 0)),
 It 1 5 (.len true (Tm 4)),
 It 2 6 (.bin .gtr (Tm 5) (K64 100))]
def c47r2 : List SI := [
 Jt 0 (.st 1 (Tm 2) (KB false))]
def c47r3 : List SI := [
 It 0 7 (.mv (Tm 0)),
 It 1 8 (.call 90 [(Tm 7), (KS #[46])] (.one .func))]
def c47r4 : List SI := [
 It 0 3 (.mv (Tm 9))]
def c47r5 : List SI := [
 It 0 10 (.mv (Tm 3)),
 It 1 11 (.call 89 [(Tm 10)] (.one .bool)),
 It 2 12 (.notb (Tm 11))]
def c47r6 : List SI := [
 Jt 0 (.st 1 (Tm 2) (KB false))]
def c47a7 : SC := (.reg c47r4 none)
def c47b7 : SC := (.block 1 (.seq (.reg c47r5 none) (.cond (Tm 12) (.seq (.reg c47r6 none) .ret) .skip)))
def c47r9 : List SI := [
 Jt 0 (.st 1 (Tm 2) (KB true))]
def c47 : SC := (.seq (.reg c47r0 none) (.seq (.seq (.reg c47r1 none) (.cond (Tm 6) (.seq (.reg c47r2 none) .ret) .skip)) (.seq (.seq (.reg c47r3 none) (.block 0 (.range (Tm 8) [9] c47a7 c47b7))) (.seq (.reg c47r9 none) .ret))))
theorem c47_ok : compFn Tryz.prog c47D Tryz.f47 = some (c47, [.cell 2 .bool]) := by kernel_rfl
def c48D : Nat → Option (List Nat) := fun _ => none
def c48r0 : List SI := [
 It 0 4 (.mv (K64 0)),
 It 1 5 (.mv (KB false))]
def c48r1 : List SI := [
 It 0 6 (.mv (Tm 0)),
 It 1 7 (.nilc (Tm 6)),
 It 2 8 (.fa 3 (Tm 7)),
 It 3 9 (.ld .slice (Tm 8)),
 It 4 10 (.mv (Tm 1)),
 It 5 11 (.call 91 [(Tm 9), (Tm 10), (.func 92)] (.tup [(.one (.int .i64)), (.one .bool)])),
 It 6 12 (.ext (Tm 11) 0),
 It 7 13 (.ext (Tm 11) 1),
 It 8 4 (.mv (Tm 12)),
 It 9 5 (.mv (Tm 13))]
def c48 : SC := (.seq (.reg c48r0 none) (.seq (.reg c48r1 none) .ret))
theorem c48_ok : compFn Tryz.prog c48D Tryz.f48 = some (c48, [.tmp 4, .tmp 5]) := by kernel_rfl
def c49D : Nat → Option (List Nat) := fun _ => none
def c49r0 : List SI := [
 It 0 6 (.mv (.const (.slice none 0 0)))]
def c49r1 : List SI := [
 It 0 10 (.mv (Tm 0)),
 It 1 11 (.mv (Tm 1)),
 It 2 12 (.slsl 3 (Tm 10) (some (Tm 11)) none none)]
def c49r2 : List SI := [
 It 0 13 (.mv (Tm 2)),
 It 1 14 (.len false (Tm 13)),
 It 2 7 (.mv (Tm 14))]
def c49r3 : List SI := [
 It 0 15 (.mv (Tm 7)),
 It 1 16 (.bin .eql (Tm 15) (K64 0))]
def c49r4 : List SI := [
 It 0 17 (.mv (Tm 0)),
 It 1 6 (.mv (Tm 17))]
def c49r5 : List SI := [
 It 0 18 (.mv (Tm 0)),
 It 1 19 (.len false (Tm 18)),
 It 2 8 (.mv (Tm 19))]
def c49r6 : List SI := [
 It 0 20 (.mv (Tm 1)),
 It 1 21 (.mv (Tm 8)),
 It 2 22 (.bin .eql (Tm 20) (Tm 21))]
def c49r7 : List SI := [
 It 0 23 (.mv (Tm 0)),
 It 1 24 (.mv (Tm 2)),
 It 2 25 (.app 65 3 40 [(.string ⟨#[]⟩), (.string ⟨#[]⟩), (.int .i64 0)] (Tm 23) (Tm 24)),
 It 3 6 (.mv (Tm 25))]
def c49r8 : List SI := [
 It 0 26 (.mv (Tm 8)),
 It 1 27 (.mv (Tm 7)),
 It 2 28 (.bin .add (Tm 26) (Tm 27)),
 It 3 29 (.mv (Tm 0)),
 It 4 30 (.capp (Tm 29)),
 It 5 31 (.bin .gtr (Tm 28) (Tm 30))]
def c49r9 : List SI := [
 It 0 32 (.mv (Tm 0)),
 It 1 33 (.mv (Tm 1)),
 It 2 34 (.slsl 3 (Tm 32) none (some (Tm 33)) none),
 It 3 35 (.mv (Tm 8)),
 It 4 36 (.mv (Tm 7)),
 It 5 37 (.bin .add (Tm 35) (Tm 36)),
 It 6 38 (.mv (Tm 1)),
 It 7 39 (.bin .sub (Tm 37) (Tm 38)),
 It 8 40 (.appz 65 3 40 [(.string ⟨#[]⟩), (.string ⟨#[]⟩), (.int .i64 0)] (Tm 34) (Tm 39)),
 It 9 9 (.mv (Tm 40))]
def c49r10 : List SI := [
 It 0 41 (.mv (Tm 9)),
 It 1 42 (.mv (Tm 1)),
 It 2 43 (.slsl 3 (Tm 41) (some (Tm 42)) none none),
 It 3 44 (.mv (Tm 2)),
 It 4 45 (.copy 3 (Tm 43) (Tm 44))]
def c49r11 : List SI := [
 It 0 46 (.mv (Tm 9)),
 It 1 47 (.mv (Tm 1)),
 It 2 48 (.mv (Tm 7)),
 It 3 49 (.bin .add (Tm 47) (Tm 48)),
 It 4 50 (.slsl 3 (Tm 46) (some (Tm 49)) none none),
 It 5 51 (.mv (Tm 0)),
 It 6 52 (.mv (Tm 1)),
 It 7 53 (.slsl 3 (Tm 51) (some (Tm 52)) none none),
 It 8 54 (.copy 3 (Tm 50) (Tm 53))]
def c49r12 : List SI := [
 It 0 55 (.mv (Tm 9)),
 It 1 6 (.mv (Tm 55))]
def c49r13 : List SI := [
 It 0 56 (.mv (Tm 0)),
 It 1 57 (.mv (Tm 8)),
 It 2 58 (.mv (Tm 7)),
 It 3 59 (.bin .add (Tm 57) (Tm 58)),
 It 4 60 (.slsl 3 (Tm 56) none (some (Tm 59)) none),
 It 5 0 (.mv (Tm 60))]
def c49r14 : List SI := [
 It 0 61 (.mv (Tm 2)),
 It 1 62 (.mv (Tm 0)),
 It 2 63 (.mv (Tm 1)),
 It 3 64 (.mv (Tm 7)),
 It 4 65 (.bin .add (Tm 63) (Tm 64)),
 It 5 66 (.slsl 3 (Tm 62) (some (Tm 65)) none none),
 It 6 67 (.xcall 94 [(Tm 61), (Tm 66)] (.one .bool)),
 It 7 68 (.notb (Tm 67))]
def c49r15 : List SI := [
 It 0 69 (.mv (Tm 0)),
 It 1 70 (.mv (Tm 1)),
 It 2 71 (.mv (Tm 7)),
 It 3 72 (.bin .add (Tm 70) (Tm 71)),
 It 4 73 (.slsl 3 (Tm 69) (some (Tm 72)) none none),
 It 5 74 (.mv (Tm 0)),
 It 6 75 (.mv (Tm 1)),
 It 7 76 (.slsl 3 (Tm 74) (some (Tm 75)) none none),
 It 8 77 (.copy 3 (Tm 73) (Tm 76))]
def c49r16 : List SI := [
 It 0 78 (.mv (Tm 0)),
 It 1 79 (.mv (Tm 1)),
 It 2 80 (.slsl 3 (Tm 78) (some (Tm 79)) none none),
 It 3 81 (.mv (Tm 2)),
 It 4 82 (.copy 3 (Tm 80) (Tm 81))]
def c49r17 : List SI := [
 It 0 83 (.mv (Tm 0)),
 It 1 6 (.mv (Tm 83))]
def c49r18 : List SI := [
 It 0 84 (.mv (Tm 0)),
 It 1 85 (.mv (Tm 8)),
 It 2 86 (.slsl 3 (Tm 84) (some (Tm 85)) none none),
 It 3 87 (.mv (Tm 2)),
 It 4 88 (.copy 3 (Tm 86) (Tm 87))]
def c49r19 : List SI := [
 It 0 89 (.mv (Tm 0)),
 It 1 90 (.mv (Tm 1)),
 It 2 91 (.slsl 3 (Tm 89) (some (Tm 90)) none none),
 It 3 92 (.mv (Tm 7)),
 It 4 93 (.call 95 [(Tm 91), (Tm 92)] .unit)]
def c49r20 : List SI := [
 It 0 94 (.mv (Tm 0)),
 It 1 6 (.mv (Tm 94))]
def c49 : SC := (.seq (.reg c49r0 none) (.seq (.reg c49r1 none) (.seq (.reg c49r2 none) (.seq (.seq (.reg c49r3 none) (.cond (Tm 16) (.seq (.reg c49r4 none) .ret) .skip)) (.seq (.reg c49r5 none) (.seq (.seq (.reg c49r6 none) (.cond (Tm 22) (.seq (.reg c49r7 none) .ret) .skip)) (.seq (.seq (.reg c49r8 none) (.cond (Tm 31) (.seq (.reg c49r9 none) (.seq (.reg c49r10 none) (.seq (.reg c49r11 none) (.seq (.reg c49r12 none) .ret)))) .skip)) (.seq (.reg c49r13 none) (.seq (.seq (.reg c49r14 none) (.cond (Tm 68) (.seq (.reg c49r15 none) (.seq (.reg c49r16 none) (.seq (.reg c49r17 none) .ret))) .skip)) (.seq (.reg c49r18 none) (.seq (.reg c49r19 none) (.seq (.reg c49r20 none) .ret))))))))))))
theorem c49_ok : compFn Tryz.prog c49D Tryz.f49 = some (c49, [.tmp 6]) := by kernel_rfl
def c50D : Nat → Option (List Nat) := fun _ => none
def c50r0 : List SI := [
 It 0 6 (.mv (.const (.slice none 0 0)))]
def c50r1 : List SI := [
 It 0 10 (.mv (Tm 0)),
 It 1 11 (.mv (Tm 1)),
 It 2 12 (.slsl 4 (Tm 10) (some (Tm 11)) none none)]
def c50r2 : List SI := [
 It 0 13 (.mv (Tm 2)),
 It 1 14 (.len false (Tm 13)),
 It 2 7 (.mv (Tm 14))]
def c50r3 : List SI := [
 It 0 15 (.mv (Tm 7)),
 It 1 16 (.bin .eql (Tm 15) (K64 0))]
def c50r4 : List SI := [
 It 0 17 (.mv (Tm 0)),
 It 1 6 (.mv (Tm 17))]
def c50r5 : List SI := [
 It 0 18 (.mv (Tm 0)),
 It 1 19 (.len false (Tm 18)),
 It 2 8 (.mv (Tm 19))]
def c50r6 : List SI := [
 It 0 20 (.mv (Tm 1)),
 It 1 21 (.mv (Tm 8)),
 It 2 22 (.bin .eql (Tm 20) (Tm 21))]
def c50r7 : List SI := [
 It 0 23 (.mv (Tm 0)),
 It 1 24 (.mv (Tm 2)),
 It 2 25 (.app 88 4 72 [(.string ⟨#[]⟩), (.int .i64 0), (.slice none 0 0), (.slice none 0 0)] (Tm 23) (Tm 24)),
 It 3 6 (.mv (Tm 25))]
def c50r8 : List SI := [
 It 0 26 (.mv (Tm 8)),
 It 1 27 (.mv (Tm 7)),
 It 2 28 (.bin .add (Tm 26) (Tm 27)),
 It 3 29 (.mv (Tm 0)),
 It 4 30 (.capp (Tm 29)),
 It 5 31 (.bin .gtr (Tm 28) (Tm 30))]
def c50r9 : List SI := [
 It 0 32 (.mv (Tm 0)),
 It 1 33 (.mv (Tm 1)),
 It 2 34 (.slsl 4 (Tm 32) none (some (Tm 33)) none),
 It 3 35 (.mv (Tm 8)),
 It 4 36 (.mv (Tm 7)),
 It 5 37 (.bin .add (Tm 35) (Tm 36)),
 It 6 38 (.mv (Tm 1)),
 It 7 39 (.bin .sub (Tm 37) (Tm 38)),
 It 8 40 (.appz 88 4 72 [(.string ⟨#[]⟩), (.int .i64 0), (.slice none 0 0), (.slice none 0 0)] (Tm 34) (Tm 39)),
 It 9 9 (.mv (Tm 40))]
def c50r10 : List SI := [
 It 0 41 (.mv (Tm 9)),
 It 1 42 (.mv (Tm 1)),
 It 2 43 (.slsl 4 (Tm 41) (some (Tm 42)) none none),
 It 3 44 (.mv (Tm 2)),
 It 4 45 (.copy 4 (Tm 43) (Tm 44))]
def c50r11 : List SI := [
 It 0 46 (.mv (Tm 9)),
 It 1 47 (.mv (Tm 1)),
 It 2 48 (.mv (Tm 7)),
 It 3 49 (.bin .add (Tm 47) (Tm 48)),
 It 4 50 (.slsl 4 (Tm 46) (some (Tm 49)) none none),
 It 5 51 (.mv (Tm 0)),
 It 6 52 (.mv (Tm 1)),
 It 7 53 (.slsl 4 (Tm 51) (some (Tm 52)) none none),
 It 8 54 (.copy 4 (Tm 50) (Tm 53))]
def c50r12 : List SI := [
 It 0 55 (.mv (Tm 9)),
 It 1 6 (.mv (Tm 55))]
def c50r13 : List SI := [
 It 0 56 (.mv (Tm 0)),
 It 1 57 (.mv (Tm 8)),
 It 2 58 (.mv (Tm 7)),
 It 3 59 (.bin .add (Tm 57) (Tm 58)),
 It 4 60 (.slsl 4 (Tm 56) none (some (Tm 59)) none),
 It 5 0 (.mv (Tm 60))]
def c50r14 : List SI := [
 It 0 61 (.mv (Tm 2)),
 It 1 62 (.mv (Tm 0)),
 It 2 63 (.mv (Tm 1)),
 It 3 64 (.mv (Tm 7)),
 It 4 65 (.bin .add (Tm 63) (Tm 64)),
 It 5 66 (.slsl 4 (Tm 62) (some (Tm 65)) none none),
 It 6 67 (.xcall 96 [(Tm 61), (Tm 66)] (.one .bool)),
 It 7 68 (.notb (Tm 67))]
def c50r15 : List SI := [
 It 0 69 (.mv (Tm 0)),
 It 1 70 (.mv (Tm 1)),
 It 2 71 (.mv (Tm 7)),
 It 3 72 (.bin .add (Tm 70) (Tm 71)),
 It 4 73 (.slsl 4 (Tm 69) (some (Tm 72)) none none),
 It 5 74 (.mv (Tm 0)),
 It 6 75 (.mv (Tm 1)),
 It 7 76 (.slsl 4 (Tm 74) (some (Tm 75)) none none),
 It 8 77 (.copy 4 (Tm 73) (Tm 76))]
def c50r16 : List SI := [
 It 0 78 (.mv (Tm 0)),
 It 1 79 (.mv (Tm 1)),
 It 2 80 (.slsl 4 (Tm 78) (some (Tm 79)) none none),
 It 3 81 (.mv (Tm 2)),
 It 4 82 (.copy 4 (Tm 80) (Tm 81))]
def c50r17 : List SI := [
 It 0 83 (.mv (Tm 0)),
 It 1 6 (.mv (Tm 83))]
def c50r18 : List SI := [
 It 0 84 (.mv (Tm 0)),
 It 1 85 (.mv (Tm 8)),
 It 2 86 (.slsl 4 (Tm 84) (some (Tm 85)) none none),
 It 3 87 (.mv (Tm 2)),
 It 4 88 (.copy 4 (Tm 86) (Tm 87))]
def c50r19 : List SI := [
 It 0 89 (.mv (Tm 0)),
 It 1 90 (.mv (Tm 1)),
 It 2 91 (.slsl 4 (Tm 89) (some (Tm 90)) none none),
 It 3 92 (.mv (Tm 7)),
 It 4 93 (.call 97 [(Tm 91), (Tm 92)] .unit)]
def c50r20 : List SI := [
 It 0 94 (.mv (Tm 0)),
 It 1 6 (.mv (Tm 94))]
def c50 : SC := (.seq (.reg c50r0 none) (.seq (.reg c50r1 none) (.seq (.reg c50r2 none) (.seq (.seq (.reg c50r3 none) (.cond (Tm 16) (.seq (.reg c50r4 none) .ret) .skip)) (.seq (.reg c50r5 none) (.seq (.seq (.reg c50r6 none) (.cond (Tm 22) (.seq (.reg c50r7 none) .ret) .skip)) (.seq (.seq (.reg c50r8 none) (.cond (Tm 31) (.seq (.reg c50r9 none) (.seq (.reg c50r10 none) (.seq (.reg c50r11 none) (.seq (.reg c50r12 none) .ret)))) .skip)) (.seq (.reg c50r13 none) (.seq (.seq (.reg c50r14 none) (.cond (Tm 68) (.seq (.reg c50r15 none) (.seq (.reg c50r16 none) (.seq (.reg c50r17 none) .ret))) .skip)) (.seq (.reg c50r18 none) (.seq (.reg c50r19 none) (.seq (.reg c50r20 none) .ret))))))))))))
theorem c50_ok : compFn Tryz.prog c50D Tryz.f50 = some (c50, [.tmp 6]) := by kernel_rfl
end Go.Proofs
