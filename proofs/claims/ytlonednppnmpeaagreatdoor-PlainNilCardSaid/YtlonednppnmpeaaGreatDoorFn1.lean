/- PH: functions of the program, compiled: printed by a program. -/
import Derived.Test.YtlonednppnmpeaaGreatDoorProg
import Derived.KernelRfl
import Derived.Test.YtlonednppnmpeaaGreatDoorStep
set_option linter.all false
set_option linter.all false
namespace Go.Proofs
open Go Go.PH
def c51D : Nat → Option (List Nat) := fun _ => none
def c51r0 : List SI := [
 It 0 2 (.mv (.const (.slice none 0 0)))]
def c51r1 : List SI := [
 It 0 3 (.mv (Tm 0)),
 It 1 4 (.nileq .slice false (Tm 3) (.const (.slice none 0 0)))]
def c51r2 : List SI := [
 It 0 2 (.mv (.const (.slice none 0 0)))]
def c51r3 : List SI := [
 It 0 5 (.bslice 88 0 [] []),
 It 1 6 (.mv (Tm 0)),
 It 2 7 (.app 88 4 72 [(.string ⟨#[]⟩), (.int .i64 0), (.slice none 0 0), (.slice none 0 0)] (Tm 5) (Tm 6)),
 It 3 2 (.mv (Tm 7))]
def c51 : SC := (.seq (.reg c51r0 none) (.seq (.seq (.reg c51r1 none) (.cond (Tm 4) (.seq (.reg c51r2 none) .ret) .skip)) (.seq (.reg c51r3 none) .ret)))
theorem c51_ok : compFn Tryz.prog c51D Tryz.f51 = some (c51, [.tmp 2]) := by kernel_rfl
def c68D : Nat → Option (List Nat) := fun _ => none
def c68r0 : List SI := [
 It 0 4 (.mv (KB false))]
def c68r1 : List SI := [
 It 0 5 (.mv (Tm 0)),
 It 1 6 (.mv (Tm 1)),
 It 2 7 (.call 111 [(Tm 5), (Tm 6), (.func 112)] (.one .bool)),
 It 3 4 (.mv (Tm 7))]
def c68 : SC := (.seq (.reg c68r0 none) (.seq (.reg c68r1 none) .ret))
theorem c68_ok : compFn Tryz.prog c68D Tryz.f68 = some (c68, [.tmp 4]) := by kernel_rfl
def c69D : Nat → Option (List Nat) := fun _ => none
def c69r0 : List SI := [
 It 0 6 (.mv (KB false))]
def c69r1 : List SI := [
 It 0 8 (.mv (Tm 0)),
 It 1 9 (.len false (Tm 8)),
 It 2 10 (.mv (Tm 1)),
 It 3 11 (.len false (Tm 10)),
 It 4 12 (.bin .neq (Tm 9) (Tm 11))]
def c69r2 : List SI := [
 It 0 6 (.mv (KB false))]
def c69r3 : List SI := [
 It 0 7 (.mv (K64 0))]
def c69r4 : List SI := [
 It 0 13 (.mv (Tm 7)),
 It 1 14 (.mv (Tm 0)),
 It 2 15 (.len false (Tm 14)),
 It 3 16 (.bin .lss (Tm 13) (Tm 15))]
def c69r5 : List SI := [
 It 0 19 (.mv (Tm 2)),
 It 1 20 (.mv (Tm 0)),
 It 2 21 (.mv (Tm 7)),
 It 3 22 (.ia 3 (Tm 20) (Tm 21)),
 It 4 23 (.lda [.str, (.int .i64), .slice] (Tm 22)),
 It 5 24 (.mv (Tm 1)),
 It 6 25 (.mv (Tm 7)),
 It 7 26 (.ia 3 (Tm 24) (Tm 25)),
 It 8 27 (.lda [.str, (.int .i64), .slice] (Tm 26)),
 It 9 28 (.callv (Tm 19) [(Tm 23), (Tm 27)] (.one .bool)),
 It 10 29 (.notb (Tm 28))]
def c69r6 : List SI := [
 It 0 6 (.mv (KB false))]
def c69r7 : List SI := [
 It 0 17 (.mv (Tm 7)),
 It 1 18 (.bin .add (Tm 17) (K64 1)),
 It 2 7 (.mv (Tm 18))]
def c69l8 : SC := (.seq (.seq (.reg c69r4 none) (.cond (Tm 16) .skip (.exit 0))) (.seq (.block 1 (.seq (.reg c69r5 none) (.cond (Tm 29) (.seq (.reg c69r6 none) .ret) .skip))) (.reg c69r7 none)))
def c69r9 : List SI := [
 It 0 6 (.mv (KB true))]
def c69 : SC := (.seq (.reg c69r0 none) (.seq (.seq (.reg c69r1 none) (.cond (Tm 12) (.seq (.reg c69r2 none) .ret) .skip)) (.seq (.seq (.reg c69r3 none) (.block 0 (.loop c69l8))) (.seq (.reg c69r9 none) .ret))))
theorem c69_ok : compFn Tryz.prog c69D Tryz.f69 = some (c69, [.tmp 6]) := by kernel_rfl
def c71D : Nat → Option (List Nat) := fun _ => none
def c71r0 : List SI := [
 It 0 6 (.mv (KB false))]
def c71r1 : List SI := [
 It 0 8 (.mv (Tm 0)),
 It 1 9 (.len false (Tm 8)),
 It 2 10 (.mv (Tm 1)),
 It 3 11 (.len false (Tm 10)),
 It 4 12 (.bin .neq (Tm 9) (Tm 11))]
def c71r2 : List SI := [
 It 0 6 (.mv (KB false))]
def c71r3 : List SI := [
 It 0 7 (.mv (K64 0))]
def c71r4 : List SI := [
 It 0 13 (.mv (Tm 7)),
 It 1 14 (.mv (Tm 0)),
 It 2 15 (.len false (Tm 14)),
 It 3 16 (.bin .lss (Tm 13) (Tm 15))]
def c71r5 : List SI := [
 It 0 19 (.mv (Tm 2)),
 It 1 20 (.mv (Tm 0)),
 It 2 21 (.mv (Tm 7)),
 It 3 22 (.ia 3 (Tm 20) (Tm 21)),
 It 4 23 (.lda [.str, .str, (.int .i64)] (Tm 22)),
 It 5 24 (.mv (Tm 1)),
 It 6 25 (.mv (Tm 7)),
 It 7 26 (.ia 3 (Tm 24) (Tm 25)),
 It 8 27 (.lda [.str, .str, (.int .i64)] (Tm 26)),
 It 9 28 (.callv (Tm 19) [(Tm 23), (Tm 27)] (.one .bool)),
 It 10 29 (.notb (Tm 28))]
def c71r6 : List SI := [
 It 0 6 (.mv (KB false))]
def c71r7 : List SI := [
 It 0 17 (.mv (Tm 7)),
 It 1 18 (.bin .add (Tm 17) (K64 1)),
 It 2 7 (.mv (Tm 18))]
def c71l8 : SC := (.seq (.seq (.reg c71r4 none) (.cond (Tm 16) .skip (.exit 0))) (.seq (.block 1 (.seq (.reg c71r5 none) (.cond (Tm 29) (.seq (.reg c71r6 none) .ret) .skip))) (.reg c71r7 none)))
def c71r9 : List SI := [
 It 0 6 (.mv (KB true))]
def c71 : SC := (.seq (.reg c71r0 none) (.seq (.seq (.reg c71r1 none) (.cond (Tm 12) (.seq (.reg c71r2 none) .ret) .skip)) (.seq (.seq (.reg c71r3 none) (.block 0 (.loop c71l8))) (.seq (.reg c71r9 none) .ret))))
theorem c71_ok : compFn Tryz.prog c71D Tryz.f71 = some (c71, [.tmp 6]) := by kernel_rfl
def c74D : Nat → Option (List Nat) := fun _ => none
def c74r0 : List SI := [
 It 0 6 (.mv (KB false))]
def c74r1 : List SI := [
 It 0 8 (.mv (Tm 0)),
 It 1 9 (.len false (Tm 8)),
 It 2 10 (.mv (Tm 1)),
 It 3 11 (.len false (Tm 10)),
 It 4 12 (.bin .neq (Tm 9) (Tm 11))]
def c74r2 : List SI := [
 It 0 6 (.mv (KB false))]
def c74r3 : List SI := [
 It 0 7 (.mv (K64 0))]
def c74r4 : List SI := [
 It 0 13 (.mv (Tm 7)),
 It 1 14 (.mv (Tm 0)),
 It 2 15 (.len false (Tm 14)),
 It 3 16 (.bin .lss (Tm 13) (Tm 15))]
def c74r5 : List SI := [
 It 0 19 (.mv (Tm 2)),
 It 1 20 (.mv (Tm 0)),
 It 2 21 (.mv (Tm 7)),
 It 3 22 (.ia 4 (Tm 20) (Tm 21)),
 It 4 23 (.lda [.str, .str, (.int .i64), (.int .u64)] (Tm 22)),
 It 5 24 (.mv (Tm 1)),
 It 6 25 (.mv (Tm 7)),
 It 7 26 (.ia 4 (Tm 24) (Tm 25)),
 It 8 27 (.lda [.str, .str, (.int .i64), (.int .u64)] (Tm 26)),
 It 9 28 (.callv (Tm 19) [(Tm 23), (Tm 27)] (.one .bool)),
 It 10 29 (.notb (Tm 28))]
def c74r6 : List SI := [
 It 0 6 (.mv (KB false))]
def c74r7 : List SI := [
 It 0 17 (.mv (Tm 7)),
 It 1 18 (.bin .add (Tm 17) (K64 1)),
 It 2 7 (.mv (Tm 18))]
def c74l8 : SC := (.seq (.seq (.reg c74r4 none) (.cond (Tm 16) .skip (.exit 0))) (.seq (.block 1 (.seq (.reg c74r5 none) (.cond (Tm 29) (.seq (.reg c74r6 none) .ret) .skip))) (.reg c74r7 none)))
def c74r9 : List SI := [
 It 0 6 (.mv (KB true))]
def c74 : SC := (.seq (.reg c74r0 none) (.seq (.seq (.reg c74r1 none) (.cond (Tm 12) (.seq (.reg c74r2 none) .ret) .skip)) (.seq (.seq (.reg c74r3 none) (.block 0 (.loop c74l8))) (.seq (.reg c74r9 none) .ret))))
theorem c74_ok : compFn Tryz.prog c74D Tryz.f74 = some (c74, [.tmp 6]) := by kernel_rfl
def c76D : Nat → Option (List Nat) := fun _ => none
def c76r0 : List SI := [
 It 0 2 (.mv (.const (.slice none 0 0)))]
def c76r1 : List SI := [
 It 0 3 (.mv (K64 0))]
def c76r2 : List SI := [
 It 0 9 (.mv (Tm 0)),
 It 1 10 (.len false (Tm 9)),
 It 2 11 (.mv (K64 0))]
def c76r3 : List SI := [
 It 0 12 (.bin .lss (Tm 11) (Tm 10))]
def c76r4 : List SI := [
 It 0 13 (.ia 1 (Tm 9) (Tm 11)),
 It 1 14 (.ld .slice (Tm 13)),
 It 2 5 (.mv (Tm 14))]
def c76r5 : List SI := [
 It 0 15 (.mv (Tm 3)),
 It 1 16 (.mv (Tm 5)),
 It 2 17 (.len false (Tm 16)),
 It 3 18 (.bin .add (Tm 15) (Tm 17)),
 It 4 3 (.mv (Tm 18))]
def c76r6 : List SI := [
 It 0 19 (.mv (Tm 3)),
 It 1 20 (.bin .lss (Tm 19) (K64 0))]
def c76r7 : List SI := [
 It 0 21 (.mkif 9 (KS #[108, 101, 110, 32, 111, 117, 116, 32, 111, 102, 32, 114, 97, 110, 103, 101])),
 Jt 1 (.bad)]
def c76r8 : List SI := [
 It 0 22 (.bin .add (Tm 11) (K64 1)),
 It 1 11 (.mv (Tm 22))]
def c76l9 : SC := (.seq (.reg c76r3 none) (.seq (.cond (Tm 12) .skip (.exit 0)) (.seq (.block 1 (.seq (.reg c76r4 none) (.seq (.reg c76r5 none) (.seq (.reg c76r6 none) (.cond (Tm 20) (.reg c76r7 none) .skip))))) (.reg c76r8 none))))
def c76r10 : List SI := [
 It 0 23 (.mv (Tm 3)),
 It 1 24 (.call 116 [(.const (.slice none 0 0)), (Tm 23)] (.one .slice)),
 It 2 6 (.mv (Tm 24))]
def c76r11 : List SI := [
 It 0 25 (.mv (Tm 0)),
 It 1 26 (.len false (Tm 25)),
 It 2 27 (.mv (K64 0))]
def c76r12 : List SI := [
 It 0 28 (.bin .lss (Tm 27) (Tm 26))]
def c76r13 : List SI := [
 It 0 29 (.ia 1 (Tm 25) (Tm 27)),
 It 1 30 (.ld .slice (Tm 29)),
 It 2 8 (.mv (Tm 30))]
def c76r14 : List SI := [
 It 0 31 (.mv (Tm 6)),
 It 1 32 (.mv (Tm 8)),
 It 2 33 (.app 5 1 1 [(.int .u8 0)] (Tm 31) (Tm 32)),
 It 3 6 (.mv (Tm 33))]
def c76r15 : List SI := [
 It 0 34 (.bin .add (Tm 27) (K64 1)),
 It 1 27 (.mv (Tm 34))]
def c76l16 : SC := (.seq (.reg c76r12 none) (.seq (.cond (Tm 28) .skip (.exit 2)) (.seq (.block 3 (.seq (.reg c76r13 none) (.reg c76r14 none))) (.reg c76r15 none))))
def c76r17 : List SI := [
 It 0 35 (.mv (Tm 6)),
 It 1 2 (.mv (Tm 35))]
def c76 : SC := (.seq (.reg c76r0 none) (.seq (.reg c76r1 none) (.seq (.seq (.reg c76r2 none) (.block 0 (.loop c76l9))) (.seq (.reg c76r10 none) (.seq (.seq (.reg c76r11 none) (.block 2 (.loop c76l16))) (.seq (.reg c76r17 none) .ret))))))
theorem c76_ok : compFn Tryz.prog c76D Tryz.f76 = some (c76, [.tmp 2]) := by kernel_rfl
def c77D : Nat → Option (List Nat) := fun _ => none
def c77r0 : List SI := [
 It 0 2 (.mv (.const (.slice none 0 0)))]
def c77r1 : List SI := [
 It 0 3 (.mv (.const (.slice none 0 0)))]
def c77r2 : List SI := [
 It 0 4 (.mv (Tm 0)),
 It 1 5 (.bin .geq (Tm 4) (.const (.int .u64 128)))]
def c77r3 : List SI := [
 It 0 8 (.mv (Tm 3)),
 It 1 9 (.mv (Tm 0)),
 It 2 10 (.cvt .u8 (Tm 9)),
 It 3 11 (.bin .or (Tm 10) (K8 128)),
 It 4 12 (.bslice 5 1 [(.int .u8 0)] [(0, 1, (Tm 11))]),
 It 5 13 (.app 5 1 1 [(.int .u8 0)] (Tm 8) (Tm 12)),
 It 6 3 (.mv (Tm 13))]
def c77r4 : List SI := [
 It 0 6 (.mv (Tm 0)),
 It 1 7 (.sh .shr (Tm 6) (.const (.int .u64 7))),
 It 2 0 (.mv (Tm 7))]
def c77l5 : SC := (.seq (.seq (.reg c77r2 none) (.cond (Tm 5) .skip (.exit 0))) (.seq (.block 1 (.reg c77r3 none)) (.reg c77r4 none)))
def c77r6 : List SI := [
 It 0 14 (.mv (Tm 3)),
 It 1 15 (.mv (Tm 0)),
 It 2 16 (.cvt .u8 (Tm 15)),
 It 3 17 (.bslice 5 1 [(.int .u8 0)] [(0, 1, (Tm 16))]),
 It 4 18 (.app 5 1 1 [(.int .u8 0)] (Tm 14) (Tm 17)),
 It 5 2 (.mv (Tm 18))]
def c77 : SC := (.seq (.reg c77r0 none) (.seq (.reg c77r1 none) (.seq (.block 0 (.loop c77l5)) (.seq (.reg c77r6 none) .ret))))
theorem c77_ok : compFn Tryz.prog c77D Tryz.f77 = some (c77, [.tmp 2]) := by kernel_rfl
def c78D : Nat → Option (List Nat) := fun _ => none
def c78r0 : List SI := [
 It 0 2 (.mv (.const (.slice none 0 0)))]
def c78r1 : List SI := [
 It 0 3 (.mv (Tm 0)),
 It 1 4 (.call 117 [(Tm 3)] (.one (.int .u64))),
 It 2 5 (.call 77 [(Tm 4)] (.one .slice)),
 It 3 2 (.mv (Tm 5))]
def c78 : SC := (.seq (.reg c78r0 none) (.seq (.reg c78r1 none) .ret))
theorem c78_ok : compFn Tryz.prog c78D Tryz.f78 = some (c78, [.tmp 2]) := by kernel_rfl
def c79D : Nat → Option (List Nat) := fun _ => none
def c79r0 : List SI := [
 It 0 2 (.mv (.const (.slice none 0 0)))]
def c79r1 : List SI := [
 It 0 3 (.mv (Tm 0)),
 It 1 4 (.len false (Tm 3)),
 It 2 5 (.call 78 [(Tm 4)] (.one .slice)),
 It 3 6 (.mv (Tm 0)),
 It 4 7 (.app 5 1 1 [(.int .u8 0)] (Tm 5) (Tm 6)),
 It 5 2 (.mv (Tm 7))]
def c79 : SC := (.seq (.reg c79r0 none) (.seq (.reg c79r1 none) .ret))
theorem c79_ok : compFn Tryz.prog c79D Tryz.f79 = some (c79, [.tmp 2]) := by kernel_rfl
def c80D : Nat → Option (List Nat) := fun _ => none
def c80r0 : List SI := [
 It 0 2 (.mv (.const (.slice none 0 0)))]
def c80r1 : List SI := [
 It 0 3 (.mv (.const (.slice none 0 0)))]
def c80r2 : List SI := [
 It 0 4 (.mv (Tm 0)),
 It 1 5 (.bin .geq (Tm 4) (.const (.int .u64 128)))]
def c80r3 : List SI := [
 It 0 6 (.mv (Tm 3)),
 It 1 7 (.mv (Tm 0)),
 It 2 8 (.bin .rem (Tm 7) (.const (.int .u64 128))),
 It 3 9 (.cvt .u8 (Tm 8)),
 It 4 10 (.bin .add (Tm 9) (K8 128)),
 It 5 11 (.bslice 5 1 [(.int .u8 0)] [(0, 1, (Tm 10))]),
 It 6 12 (.app 5 1 1 [(.int .u8 0)] (Tm 6) (Tm 11)),
 It 7 3 (.mv (Tm 12))]
def c80r4 : List SI := [
 It 0 13 (.mv (Tm 0)),
 It 1 14 (.bin .quo (Tm 13) (.const (.int .u64 128))),
 It 2 0 (.mv (Tm 14))]
def c80l5 : SC := (.seq (.seq (.reg c80r2 none) (.cond (Tm 5) .skip (.exit 0))) (.block 1 (.seq (.reg c80r3 none) (.reg c80r4 none))))
def c80r6 : List SI := [
 It 0 15 (.mv (Tm 3)),
 It 1 16 (.mv (Tm 0)),
 It 2 17 (.cvt .u8 (Tm 16)),
 It 3 18 (.bslice 5 1 [(.int .u8 0)] [(0, 1, (Tm 17))]),
 It 4 19 (.app 5 1 1 [(.int .u8 0)] (Tm 15) (Tm 18)),
 It 5 2 (.mv (Tm 19))]
def c80 : SC := (.seq (.reg c80r0 none) (.seq (.reg c80r1 none) (.seq (.block 0 (.loop c80l5)) (.seq (.reg c80r6 none) .ret))))
theorem c80_ok : compFn Tryz.prog c80D Tryz.f80 = some (c80, [.tmp 2]) := by kernel_rfl
def c81D : Nat → Option (List Nat) := fun _ => none
def c81r0 : List SI := [
 It 0 2 (.mv (.const (.slice none 0 0)))]
def c81r1 : List SI := [
 It 0 3 (.mv (Tm 0)),
 It 1 4 (.bin .geq (Tm 3) (K64 0))]
def c81r2 : List SI := [
 It 0 5 (.mv (Tm 0)),
 It 1 6 (.cvt .u64 (Tm 5)),
 It 2 7 (.bin .mul (Tm 6) (.const (.int .u64 2))),
 It 3 8 (.call 80 [(Tm 7)] (.one .slice)),
 It 4 2 (.mv (Tm 8))]
def c81r3 : List SI := [
 It 0 9 (.mv (Tm 0)),
 It 1 10 (.bin .add (Tm 9) (K64 1)),
 It 2 11 (.neg (Tm 10)),
 It 3 12 (.cvt .u64 (Tm 11)),
 It 4 13 (.bin .mul (Tm 12) (.const (.int .u64 2))),
 It 5 14 (.bin .add (Tm 13) (.const (.int .u64 1))),
 It 6 15 (.call 80 [(Tm 14)] (.one .slice)),
 It 7 2 (.mv (Tm 15))]
def c81 : SC := (.seq (.reg c81r0 none) (.seq (.seq (.reg c81r1 none) (.cond (Tm 4) (.seq (.reg c81r2 none) .ret) .skip)) (.seq (.reg c81r3 none) .ret)))
theorem c81_ok : compFn Tryz.prog c81D Tryz.f81 = some (c81, [.tmp 2]) := by kernel_rfl
def c82D : Nat → Option (List Nat) := fun _ => none
def c82r0 : List SI := [
 It 0 2 (.mv (.const (.slice none 0 0)))]
def c82r1 : List SI := [
 It 0 3 (.mv (Tm 0)),
 It 1 4 (.len false (Tm 3)),
 It 2 5 (.call 81 [(Tm 4)] (.one .slice)),
 It 3 6 (.mv (Tm 0)),
 It 4 7 (.app 5 1 1 [(.int .u8 0)] (Tm 5) (Tm 6)),
 It 5 2 (.mv (Tm 7))]
def c82 : SC := (.seq (.reg c82r0 none) (.seq (.reg c82r1 none) .ret))
theorem c82_ok : compFn Tryz.prog c82D Tryz.f82 = some (c82, [.tmp 2]) := by kernel_rfl
def c89D : Nat → Option (List Nat) := fun _ => none
def c89r0 : List SI := [
 It 0 2 (.mv (KB false))]
def c89r1 : List SI := [
 It 0 5 (.mv (Tm 0)),
 It 1 6 (.len true (Tm 5)),
 It 2 7 (.mv (K64 0))]
def c89r2 : List SI := [
 It 0 8 (.bin .lss (Tm 7) (Tm 6))]
def c89r3 : List SI := [
 It 0 9 (.mv (Tm 7)),
 It 1 3 (.mv (Tm 9))]
def c89r4 : List SI := [
 It 0 10 (.mv (Tm 0)),
 It 1 11 (.mv (Tm 3)),
 It 2 12 (.idx (Tm 10) (Tm 11)),
 It 3 4 (.mv (Tm 12))]
def c89r5 : List SI := [
 It 0 14 (.mv (Tm 4)),
 It 1 15 (.bin .geq (Tm 14) (K8 97)),
 St 2 16 (.mv (Tm 15)),
 Gt 3 17 16 true (.mv (Tm 4)),
 Gt 4 18 16 true (.bin .leq (Tm 17) (K8 122)),
 It 5 19 (.pick (Tm 16) (Tm 18) (KB false)),
 It 6 13 (.mv (Tm 19))]
def c89r6 : List SI := [
 It 0 20 (.mv (Tm 4)),
 It 1 21 (.bin .geq (Tm 20) (K8 65)),
 St 2 22 (.mv (Tm 21)),
 Gt 3 23 22 true (.mv (Tm 4)),
 Gt 4 24 22 true (.bin .leq (Tm 23) (K8 90)),
 It 5 25 (.pick (Tm 22) (Tm 24) (KB false)),
 It 6 13 (.mv (Tm 25))]
def c89r7 : List SI := [
 It 0 26 (.mv (Tm 4)),
 It 1 27 (.bin .eql (Tm 26) (K8 95)),
 It 2 13 (.mv (Tm 27))]
def c89r8 : List SI := [
 It 0 28 (.mv (Tm 3)),
 It 1 29 (.bin .gtr (Tm 28) (K64 0)),
 St 2 30 (.mv (Tm 29)),
 Gt 3 31 30 true (.mv (Tm 4)),
 Gt 4 32 30 true (.bin .geq (Tm 31) (K8 48)),
 It 5 33 (.pick (Tm 30) (Tm 32) (KB false)),
 St 6 34 (.mv (Tm 33)),
 Gt 7 35 34 true (.mv (Tm 4)),
 Gt 8 36 34 true (.bin .leq (Tm 35) (K8 57)),
 It 9 37 (.pick (Tm 34) (Tm 36) (KB false)),
 It 10 13 (.mv (Tm 37))]
def c89r9 : List SI := [
 It 0 2 (.mv (KB false))]
def c89r10 : List SI := [
 It 0 38 (.bin .add (Tm 7) (K64 1)),
 It 1 7 (.mv (Tm 38))]
def c89l11 : SC := (.seq (.reg c89r2 none) (.seq (.cond (Tm 8) .skip (.exit 0)) (.seq (.block 1 (.seq (.reg c89r3 none) (.seq (.reg c89r4 none) (.block 2 (.seq (.seq (.reg c89r5 none) (.cond (Tm 13) .skip (.seq (.reg c89r6 none) (.cond (Tm 13) .skip (.seq (.reg c89r7 none) (.cond (Tm 13) .skip (.reg c89r8 none))))))) (.cond (Tm 13) .skip (.seq (.reg c89r9 none) .ret))))))) (.reg c89r10 none))))
def c89r12 : List SI := [
 It 0 39 (.mv (Tm 0)),
 It 1 40 (.len true (Tm 39)),
 It 2 41 (.bin .gtr (Tm 40) (K64 0)),
 St 3 42 (.mv (Tm 41)),
 Gt 4 43 42 true (.mv (Tm 0)),
 Gt 5 44 42 true (.len true (Tm 43)),
 Gt 6 45 42 true (.bin .leq (Tm 44) (K64 100)),
 It 7 46 (.pick (Tm 42) (Tm 45) (KB false)),
 It 8 2 (.mv (Tm 46))]
def c89 : SC := (.seq (.reg c89r0 none) (.seq (.seq (.reg c89r1 none) (.block 0 (.loop c89l11))) (.seq (.reg c89r12 none) .ret)))
theorem c89_ok : compFn Tryz.prog c89D Tryz.f89 = some (c89, [.tmp 2]) := by kernel_rfl
def c90D : Nat → Option (List Nat) := fun _ => none
def c90r0 : List SI := [
 It 0 4 (.mv (.const .nilFunc))]
def c90r1 : List SI := [
 It 0 5 (.mv (Tm 0)),
 It 1 6 (.mv (Tm 1)),
 It 2 7 (.call 130 [(Tm 5), (Tm 6), (K64 0)] (.one .func)),
 It 3 4 (.mv (Tm 7))]
def c90 : SC := (.seq (.reg c90r0 none) (.seq (.reg c90r1 none) .ret))
theorem c90_ok : compFn Tryz.prog c90D Tryz.f90 = some (c90, [.tmp 4]) := by kernel_rfl
def c91D : Nat → Option (List Nat) := fun _ => none
def c91r0 : List SI := [
 It 0 6 (.mv (K64 0)),
 It 1 7 (.mv (KB false))]
def c91r1 : List SI := [
 It 0 12 (.mv (Tm 0)),
 It 1 13 (.len false (Tm 12)),
 It 2 8 (.mv (Tm 13))]
def c91r2 : List SI := [
 It 0 14 (.mv (Tm 8)),
 It 1 9 (.mv (K64 0)),
 It 2 10 (.mv (Tm 14))]
def c91r3 : List SI := [
 It 0 15 (.mv (Tm 9)),
 It 1 16 (.mv (Tm 10)),
 It 2 17 (.bin .lss (Tm 15) (Tm 16))]
def c91r4 : List SI := [
 It 0 18 (.mv (Tm 9)),
 It 1 19 (.mv (Tm 10)),
 It 2 20 (.bin .add (Tm 18) (Tm 19)),
 It 3 21 (.cvt .u64 (Tm 20)),
 It 4 22 (.sh .shr (Tm 21) (.const (.int .u64 1))),
 It 5 23 (.cvt .i64 (Tm 22)),
 It 6 11 (.mv (Tm 23))]
def c91r5 : List SI := [
 It 0 24 (.mv (Tm 2)),
 It 1 25 (.mv (Tm 0)),
 It 2 26 (.mv (Tm 11)),
 It 3 27 (.ia 3 (Tm 25) (Tm 26)),
 It 4 28 (.lda [.str, .str, (.int .i64)] (Tm 27)),
 It 5 29 (.mv (Tm 1)),
 It 6 30 (.callv (Tm 24) [(Tm 28), (Tm 29)] (.one (.int .i64))),
 It 7 31 (.bin .lss (Tm 30) (K64 0))]
def c91r6 : List SI := [
 It 0 32 (.mv (Tm 11)),
 It 1 33 (.bin .add (Tm 32) (K64 1)),
 It 2 9 (.mv (Tm 33))]
def c91r7 : List SI := [
 It 0 34 (.mv (Tm 11)),
 It 1 10 (.mv (Tm 34))]
def c91l8 : SC := (.seq (.seq (.reg c91r3 none) (.cond (Tm 17) .skip (.exit 0))) (.block 1 (.seq (.reg c91r4 none) (.seq (.reg c91r5 none) (.cond (Tm 31) (.reg c91r6 none) (.reg c91r7 none))))))
def c91r9 : List SI := [
 It 0 35 (.mv (Tm 9)),
 It 1 36 (.mv (Tm 9)),
 It 2 37 (.mv (Tm 8)),
 It 3 38 (.bin .lss (Tm 36) (Tm 37)),
 St 4 39 (.mv (Tm 38)),
 Gt 5 40 39 true (.mv (Tm 2)),
 Gt 6 41 39 true (.mv (Tm 0)),
 Gt 7 42 39 true (.mv (Tm 9)),
 Gt 8 43 39 true (.ia 3 (Tm 41) (Tm 42)),
 Gt 9 44 39 true (.lda [.str, .str, (.int .i64)] (Tm 43)),
 Gt 10 45 39 true (.mv (Tm 1)),
 Gt 11 46 39 true (.callv (Tm 40) [(Tm 44), (Tm 45)] (.one (.int .i64))),
 Gt 12 47 39 true (.bin .eql (Tm 46) (K64 0)),
 It 13 48 (.pick (Tm 39) (Tm 47) (KB false)),
 It 14 6 (.mv (Tm 35)),
 It 15 7 (.mv (Tm 48))]
def c91 : SC := (.seq (.reg c91r0 none) (.seq (.reg c91r1 none) (.seq (.reg c91r2 none) (.seq (.block 0 (.loop c91l8)) (.seq (.reg c91r9 none) .ret)))))
theorem c91_ok : compFn Tryz.prog c91D Tryz.f91 = some (c91, [.tmp 6, .tmp 7]) := by kernel_rfl
def c111D : Nat → Option (List Nat) := fun _ => none
def c111r0 : List SI := [
 It 0 6 (.mv (KB false))]
def c111r1 : List SI := [
 It 0 8 (.mv (Tm 0)),
 It 1 9 (.len false (Tm 8)),
 It 2 10 (.mv (Tm 1)),
 It 3 11 (.len false (Tm 10)),
 It 4 12 (.bin .neq (Tm 9) (Tm 11))]
def c111r2 : List SI := [
 It 0 6 (.mv (KB false))]
def c111r3 : List SI := [
 It 0 7 (.mv (K64 0))]
def c111r4 : List SI := [
 It 0 13 (.mv (Tm 7)),
 It 1 14 (.mv (Tm 0)),
 It 2 15 (.len false (Tm 14)),
 It 3 16 (.bin .lss (Tm 13) (Tm 15))]
def c111r5 : List SI := [
 It 0 19 (.mv (Tm 2)),
 It 1 20 (.mv (Tm 0)),
 It 2 21 (.mv (Tm 7)),
 It 3 22 (.ia 1 (Tm 20) (Tm 21)),
 It 4 23 (.ld .str (Tm 22)),
 It 5 24 (.mv (Tm 1)),
 It 6 25 (.mv (Tm 7)),
 It 7 26 (.ia 1 (Tm 24) (Tm 25)),
 It 8 27 (.ld .str (Tm 26)),
 It 9 28 (.callv (Tm 19) [(Tm 23), (Tm 27)] (.one .bool)),
 It 10 29 (.notb (Tm 28))]
def c111r6 : List SI := [
 It 0 6 (.mv (KB false))]
def c111r7 : List SI := [
 It 0 17 (.mv (Tm 7)),
 It 1 18 (.bin .add (Tm 17) (K64 1)),
 It 2 7 (.mv (Tm 18))]
def c111l8 : SC := (.seq (.seq (.reg c111r4 none) (.cond (Tm 16) .skip (.exit 0))) (.seq (.block 1 (.seq (.reg c111r5 none) (.cond (Tm 29) (.seq (.reg c111r6 none) .ret) .skip))) (.reg c111r7 none)))
def c111r9 : List SI := [
 It 0 6 (.mv (KB true))]
def c111 : SC := (.seq (.reg c111r0 none) (.seq (.seq (.reg c111r1 none) (.cond (Tm 12) (.seq (.reg c111r2 none) .ret) .skip)) (.seq (.seq (.reg c111r3 none) (.block 0 (.loop c111l8))) (.seq (.reg c111r9 none) .ret))))
theorem c111_ok : compFn Tryz.prog c111D Tryz.f111 = some (c111, [.tmp 6]) := by kernel_rfl
def c116D : Nat → Option (List Nat) := fun _ => none
def c116r0 : List SI := [
 It 0 4 (.mv (.const (.slice none 0 0)))]
def c116r1 : List SI := [
 It 0 5 (.mv (Tm 1)),
 It 1 6 (.bin .lss (Tm 5) (K64 0))]
def c116r2 : List SI := [
 It 0 7 (.mkif 9 (KS #[99, 97, 110, 110, 111, 116, 32, 98, 101, 32, 110, 101, 103, 97, 116, 105, 118, 101])),
 Jt 1 (.bad)]
def c116r3 : List SI := [
 It 0 8 (.mv (Tm 1)),
 It 1 9 (.mv (Tm 0)),
 It 2 10 (.capp (Tm 9)),
 It 3 11 (.mv (Tm 0)),
 It 4 12 (.len false (Tm 11)),
 It 5 13 (.bin .sub (Tm 10) (Tm 12)),
 It 6 14 (.bin .sub (Tm 8) (Tm 13)),
 It 7 1 (.mv (Tm 14))]
def c116r4 : List SI := [
 It 0 15 (.mv (Tm 1)),
 It 1 16 (.bin .gtr (Tm 15) (K64 0))]
def c116r5 : List SI := [
 It 0 17 (.mv (Tm 0)),
 It 1 18 (.mv (Tm 0)),
 It 2 19 (.capp (Tm 18)),
 It 3 20 (.slsl 1 (Tm 17) none (some (Tm 19)) none),
 It 4 21 (.mv (Tm 1)),
 It 5 22 (.appz 5 1 1 [(.int .u8 0)] (Tm 20) (Tm 21)),
 It 6 23 (.mv (Tm 0)),
 It 7 24 (.len false (Tm 23)),
 It 8 25 (.slsl 1 (Tm 22) none (some (Tm 24)) none),
 It 9 0 (.mv (Tm 25))]
def c116r6 : List SI := [
 It 0 26 (.mv (Tm 0)),
 It 1 4 (.mv (Tm 26))]
def c116 : SC := (.seq (.reg c116r0 none) (.seq (.seq (.reg c116r1 none) (.cond (Tm 6) (.reg c116r2 none) .skip)) (.seq (.seq (.reg c116r3 none) (.seq (.reg c116r4 none) (.cond (Tm 16) (.reg c116r5 none) .skip))) (.seq (.reg c116r6 none) .ret))))
theorem c116_ok : compFn Tryz.prog c116D Tryz.f116 = some (c116, [.tmp 4]) := by kernel_rfl
def c117D : Nat → Option (List Nat) := fun _ => none
def c117r0 : List SI := [
 It 0 2 (.mv (.const (.int .u64 0)))]
def c117r1 : List SI := [
 It 0 3 (.mv (Tm 0)),
 It 1 4 (.cvt .u64 (Tm 3)),
 It 2 5 (.sh .shl (Tm 4) (.const (.int .u64 1))),
 It 3 6 (.mv (Tm 0)),
 It 4 7 (.sh .shr (Tm 6) (.const (.int .u64 63))),
 It 5 8 (.cvt .u64 (Tm 7)),
 It 6 9 (.bin .xor (Tm 5) (Tm 8)),
 It 7 2 (.mv (Tm 9))]
def c117 : SC := (.seq (.reg c117r0 none) (.seq (.reg c117r1 none) .ret))
theorem c117_ok : compFn Tryz.prog c117D Tryz.f117 = some (c117, [.tmp 2]) := by kernel_rfl
def c130D : Nat → Option (List Nat) := fun _ => none
def c130r0 : List SI := [
 It 0 3 (.box 9 (Tm 0)),
 It 1 4 (.box 9 (Tm 1)),
 It 2 5 (.box 3 (Tm 2)),
 It 3 6 (.mv (.const .nilFunc))]
def c130r1 : List SI := [
 It 0 7 (.mkfn (.func 155) [] [(Tm 4), (Tm 3), (Tm 5)]),
 It 1 6 (.mv (Tm 7))]
def c130 : SC := (.seq (.reg c130r0 none) (.seq (.reg c130r1 none) .ret))
theorem c130_ok : compFn Tryz.prog c130D Tryz.f130 = some (c130, [.tmp 6]) := by kernel_rfl
def c155D : Nat → Option (List Nat) := fun _ => none
def c155r0 : List SI := [
 It 0 9 (.ld .str (Tm 1)),
 It 1 10 (.len true (Tm 9)),
 It 2 11 (.bin .eql (Tm 10) (K64 0))]
def c155r1 : List SI := [
 It 0 12 (.ld .str (Tm 2)),
 It 1 13 (.len true (Tm 12)),
 It 2 14 (.bin .gtr (Tm 13) (K64 0))]
def c155r2 : List SI := [
 It 0 16 (.ld .str (Tm 2)),
 It 1 17 (.call 156 [(Tm 16)] (.tup [(.one (.int .i32)), (.one (.int .i64))])),
 It 2 15 (.mv (Tm 17)),
 It 3 18 (.ext (Tm 15) 0),
 It 4 19 (.ext (Tm 15) 1),
 It 5 5 (.mv (Tm 18)),
 It 6 6 (.mv (Tm 19))]
def c155r3 : List SI := [
 It 0 20 (.mv (Tm 0)),
 It 1 21 (.ld .str (Tm 2)),
 It 2 22 (.mv (Tm 6)),
 It 3 23 (.slstr (Tm 21) none (some (Tm 22))),
 It 4 24 (.callv (Tm 20) [(Tm 23)] (.one .bool)),
 It 5 25 (.notb (Tm 24))]
def c155r4 : List SI := [
 It 0 26 (.ld .str (Tm 2)),
 It 1 27 (.mv (Tm 6)),
 It 2 28 (.slstr (Tm 26) (some (Tm 27)) none),
 Jt 3 (.st 1 (Tm 2) (Tm 28))]
def c155l5 : SC := (.seq (.seq (.reg c155r1 none) (.cond (Tm 14) .skip (.exit 0))) (.block 1 (.seq (.reg c155r2 none) (.seq (.seq (.reg c155r3 none) (.cond (Tm 25) .ret .skip)) (.reg c155r4 none)))))
def c155r6 : List SI := [
 It 0 29 (.ld .str (Tm 2)),
 It 1 30 (.ld .str (Tm 1)),
 It 2 31 (.call 157 [(Tm 29), (Tm 30)] (.one (.int .i64))),
 It 3 7 (.mv (Tm 31))]
def c155r7 : List SI := [
 It 0 32 (.mv (Tm 7)),
 It 1 33 (.bin .lss (Tm 32) (K64 0))]
def c155r8 : List SI := [
 It 0 34 (.ld .str (Tm 2)),
 It 1 35 (.mv (Tm 7)),
 It 2 36 (.ld (.int .i64) (Tm 3)),
 It 3 37 (.bin .add (Tm 35) (Tm 36)),
 It 4 38 (.slstr (Tm 34) none (some (Tm 37))),
 It 5 8 (.mv (Tm 38))]
def c155r9 : List SI := [
 It 0 39 (.mv (Tm 0)),
 It 1 40 (.mv (Tm 8)),
 It 2 41 (.callv (Tm 39) [(Tm 40)] (.one .bool)),
 It 3 42 (.notb (Tm 41))]
def c155r10 : List SI := [
 It 0 43 (.ld .str (Tm 2)),
 It 1 44 (.mv (Tm 7)),
 It 2 45 (.ld .str (Tm 1)),
 It 3 46 (.len true (Tm 45)),
 It 4 47 (.bin .add (Tm 44) (Tm 46)),
 It 5 48 (.slstr (Tm 43) (some (Tm 47)) none),
 Jt 6 (.st 1 (Tm 2) (Tm 48))]
def c155l11 : SC := (.block 3 (.seq (.reg c155r6 none) (.seq (.seq (.reg c155r7 none) (.cond (Tm 33) (.exit 2) .skip)) (.seq (.reg c155r8 none) (.seq (.seq (.reg c155r9 none) (.cond (Tm 42) .ret .skip)) (.reg c155r10 none))))))
def c155r12 : List SI := [
 It 0 49 (.mv (Tm 0)),
 It 1 50 (.ld .str (Tm 2)),
 It 2 51 (.callv (Tm 49) [(Tm 50)] (.one .bool))]
def c155 : SC := (.seq (.seq (.reg c155r0 none) (.cond (Tm 11) (.seq (.block 0 (.loop c155l5)) .ret) .skip)) (.seq (.block 2 (.loop c155l11)) (.reg c155r12 none)))
theorem c155_ok : compFn Tryz.prog c155D Tryz.f155 = some (c155, []) := by kernel_rfl
def c157D : Nat → Option (List Nat) := fun _ => none
def c157r0 : List SI := [
 It 0 4 (.mv (K64 0))]
def c157r1 : List SI := [
 It 0 5 (.mv (Tm 0)),
 It 1 6 (.mv (Tm 1)),
 It 2 7 (.call 185 [(Tm 5), (Tm 6)] (.one (.int .i64))),
 It 3 4 (.mv (Tm 7))]
def c157 : SC := (.seq (.reg c157r0 none) (.seq (.reg c157r1 none) .ret))
theorem c157_ok : compFn Tryz.prog c157D Tryz.f157 = some (c157, [.tmp 4]) := by kernel_rfl
def c185D : Nat → Option (List Nat) := fun _ => none
def c185r0 : List SI := [
 It 0 4 (.mv (K64 0))]
def c185r1 : List SI := [
 It 0 14 (.mv (Tm 1)),
 It 1 15 (.len true (Tm 14)),
 It 2 5 (.mv (Tm 15))]
def c185r2 : List SI := [
 It 0 17 (.mv (Tm 5)),
 It 1 18 (.bin .eql (Tm 17) (K64 0)),
 St 2 19 (.mv (Tm 18)),
 Gt 3 20 19 false (.mv (Tm 1)),
 Gt 4 21 19 false (.mv (Tm 0)),
 Gt 5 22 19 false (.sop .eql (Tm 20) (Tm 21)),
 It 6 23 (.pick (Tm 19) (KB true) (Tm 22)),
 It 7 16 (.mv (Tm 23))]
def c185r3 : List SI := [
 It 0 4 (.mv (K64 0))]
def c185r4 : List SI := [
 It 0 25 (.mv (Tm 5)),
 It 1 26 (.bin .eql (Tm 25) (K64 1)),
 It 2 24 (.mv (Tm 26))]
def c185r5 : List SI := [
 It 0 27 (.mv (Tm 0)),
 It 1 28 (.mv (Tm 1)),
 It 2 29 (.idx (Tm 28) (K64 0)),
 It 3 30 (.call 221 [(Tm 27), (Tm 29)] (.one (.int .i64))),
 It 4 4 (.mv (Tm 30))]
def c185r6 : List SI := [
 It 0 32 (.mv (Tm 5)),
 It 1 33 (.mv (Tm 0)),
 It 2 34 (.len true (Tm 33)),
 It 3 35 (.bin .geq (Tm 32) (Tm 34)),
 It 4 31 (.mv (Tm 35))]
def c185r7 : List SI := [
 It 0 4 (.mv (K64 (-1)))]
def c185r8 : List SI := [
 It 0 37 (.mv (Tm 5)),
 It 1 38 (.ld (.int .i64) (.global 2)),
 It 2 39 (.bin .leq (Tm 37) (Tm 38)),
 St 3 40 (.mv (Tm 39)),
 Gt 4 41 40 true (.mv (Tm 0)),
 Gt 5 42 40 true (.len true (Tm 41)),
 Gt 6 43 40 true (.bin .leq (Tm 42) (K64 64)),
 It 7 44 (.pick (Tm 40) (Tm 43) (KB false)),
 It 8 36 (.mv (Tm 44))]
def c185r9 : List SI := [
 It 0 45 (.mv (Tm 0)),
 It 1 46 (.mv (Tm 1)),
 It 2 47 (.xcall 222 [(Tm 45), (Tm 46)] (.one (.int .i64))),
 It 3 4 (.mv (Tm 47))]
def c185r10 : List SI := [
 It 0 48 (.mv (Tm 1)),
 It 1 49 (.idx (Tm 48) (K64 0)),
 It 2 6 (.mv (Tm 49))]
def c185r11 : List SI := [
 It 0 50 (.mv (Tm 1)),
 It 1 51 (.idx (Tm 50) (K64 1)),
 It 2 7 (.mv (Tm 51))]
def c185r12 : List SI := [
 It 0 8 (.mv (K64 0))]
def c185r13 : List SI := [
 It 0 52 (.mv (Tm 0)),
 It 1 53 (.len true (Tm 52)),
 It 2 54 (.mv (Tm 5)),
 It 3 55 (.bin .sub (Tm 53) (Tm 54)),
 It 4 56 (.bin .add (Tm 55) (K64 1)),
 It 5 9 (.mv (Tm 56))]
def c185r14 : List SI := [
 It 0 10 (.mv (K64 0))]
def c185r15 : List SI := [
 It 0 57 (.mv (Tm 8)),
 It 1 58 (.mv (Tm 9)),
 It 2 59 (.bin .lss (Tm 57) (Tm 58))]
def c185r16 : List SI := [
 It 0 60 (.mv (Tm 0)),
 It 1 61 (.mv (Tm 8)),
 It 2 62 (.idx (Tm 60) (Tm 61)),
 It 3 63 (.mv (Tm 6)),
 It 4 64 (.bin .neq (Tm 62) (Tm 63))]
def c185r17 : List SI := [
 It 0 65 (.mv (Tm 0)),
 It 1 66 (.mv (Tm 8)),
 It 2 67 (.bin .add (Tm 66) (K64 1)),
 It 3 68 (.mv (Tm 9)),
 It 4 69 (.slstr (Tm 65) (some (Tm 67)) (some (Tm 68))),
 It 5 70 (.mv (Tm 6)),
 It 6 71 (.call 221 [(Tm 69), (Tm 70)] (.one (.int .i64))),
 It 7 11 (.mv (Tm 71))]
def c185r18 : List SI := [
 It 0 72 (.mv (Tm 11)),
 It 1 73 (.bin .lss (Tm 72) (K64 0))]
def c185r19 : List SI := [
 It 0 4 (.mv (K64 (-1)))]
def c185r20 : List SI := [
 It 0 74 (.mv (Tm 8)),
 It 1 75 (.mv (Tm 11)),
 It 2 76 (.bin .add (Tm 75) (K64 1)),
 It 3 77 (.bin .add (Tm 74) (Tm 76)),
 It 4 8 (.mv (Tm 77))]
def c185r21 : List SI := [
 It 0 78 (.mv (Tm 0)),
 It 1 79 (.mv (Tm 8)),
 It 2 80 (.bin .add (Tm 79) (K64 1)),
 It 3 81 (.idx (Tm 78) (Tm 80)),
 It 4 82 (.mv (Tm 7)),
 It 5 83 (.bin .eql (Tm 81) (Tm 82)),
 St 6 84 (.mv (Tm 83)),
 Gt 7 85 84 true (.mv (Tm 0)),
 Gt 8 86 84 true (.mv (Tm 8)),
 Gt 9 87 84 true (.mv (Tm 8)),
 Gt 10 88 84 true (.mv (Tm 5)),
 Gt 11 89 84 true (.bin .add (Tm 87) (Tm 88)),
 Gt 12 90 84 true (.slstr (Tm 85) (some (Tm 86)) (some (Tm 89))),
 Gt 13 91 84 true (.mv (Tm 1)),
 Gt 14 92 84 true (.sop .eql (Tm 90) (Tm 91)),
 It 15 93 (.pick (Tm 84) (Tm 92) (KB false))]
def c185r22 : List SI := [
 It 0 94 (.mv (Tm 8)),
 It 1 4 (.mv (Tm 94))]
def c185r23 : List SI := [
 It 0 95 (.mv (Tm 8)),
 It 1 96 (.bin .add (Tm 95) (K64 1)),
 It 2 8 (.mv (Tm 96))]
def c185r24 : List SI := [
 It 0 97 (.mv (Tm 10)),
 It 1 98 (.bin .add (Tm 97) (K64 1)),
 It 2 10 (.mv (Tm 98))]
def c185r25 : List SI := [
 It 0 99 (.mv (Tm 5)),
 It 1 100 (.ld (.int .i64) (.global 2)),
 It 2 101 (.bin .leq (Tm 99) (Tm 100)),
 St 3 102 (.mv (Tm 101)),
 Gt 4 103 102 true (.mv (Tm 10)),
 Gt 5 104 102 true (.mv (Tm 8)),
 Gt 6 105 102 true (.call 223 [(Tm 104)] (.one (.int .i64))),
 Gt 7 106 102 true (.bin .gtr (Tm 103) (Tm 105)),
 It 8 107 (.pick (Tm 102) (Tm 106) (KB false))]
def c185r26 : List SI := [
 It 0 108 (.mv (Tm 0)),
 It 1 109 (.mv (Tm 8)),
 It 2 110 (.slstr (Tm 108) (some (Tm 109)) none),
 It 3 111 (.mv (Tm 1)),
 It 4 112 (.xcall 222 [(Tm 110), (Tm 111)] (.one (.int .i64))),
 It 5 12 (.mv (Tm 112))]
def c185r27 : List SI := [
 It 0 113 (.mv (Tm 12)),
 It 1 114 (.bin .geq (Tm 113) (K64 0))]
def c185r28 : List SI := [
 It 0 115 (.mv (Tm 12)),
 It 1 116 (.mv (Tm 8)),
 It 2 117 (.bin .add (Tm 115) (Tm 116)),
 It 3 4 (.mv (Tm 117))]
def c185r29 : List SI := [
 It 0 4 (.mv (K64 (-1)))]
def c185r30 : List SI := [
 It 0 118 (.mv (Tm 5)),
 It 1 119 (.ld (.int .i64) (.global 2)),
 It 2 120 (.bin .gtr (Tm 118) (Tm 119)),
 St 3 121 (.mv (Tm 120)),
 Gt 4 122 121 true (.mv (Tm 10)),
 Gt 5 123 121 true (.mv (Tm 8)),
 Gt 6 124 121 true (.sh .shr (Tm 123) (.const (.int .u64 4))),
 Gt 7 125 121 true (.bin .add (K64 4) (Tm 124)),
 Gt 8 126 121 true (.bin .geq (Tm 122) (Tm 125)),
 It 9 127 (.pick (Tm 121) (Tm 126) (KB false)),
 St 10 128 (.mv (Tm 127)),
 Gt 11 129 128 true (.mv (Tm 8)),
 Gt 12 130 128 true (.mv (Tm 9)),
 Gt 13 131 128 true (.bin .lss (Tm 129) (Tm 130)),
 It 14 132 (.pick (Tm 128) (Tm 131) (KB false))]
def c185r31 : List SI := [
 It 0 133 (.mv (Tm 0)),
 It 1 134 (.mv (Tm 8)),
 It 2 135 (.slstr (Tm 133) (some (Tm 134)) none),
 It 3 136 (.mv (Tm 1)),
 It 4 137 (.call 224 [(Tm 135), (Tm 136)] (.one (.int .i64))),
 It 5 13 (.mv (Tm 137))]
def c185r32 : List SI := [
 It 0 138 (.mv (Tm 13)),
 It 1 139 (.bin .lss (Tm 138) (K64 0))]
def c185r33 : List SI := [
 It 0 4 (.mv (K64 (-1)))]
def c185r34 : List SI := [
 It 0 140 (.mv (Tm 8)),
 It 1 141 (.mv (Tm 13)),
 It 2 142 (.bin .add (Tm 140) (Tm 141)),
 It 3 4 (.mv (Tm 142))]
def c185l35 : SC := (.seq (.seq (.reg c185r15 none) (.cond (Tm 59) .skip (.exit 1))) (.block 2 (.seq (.seq (.reg c185r16 none) (.cond (Tm 64) (.seq (.reg c185r17 none) (.seq (.seq (.reg c185r18 none) (.cond (Tm 73) (.seq (.reg c185r19 none) .ret) .skip)) (.reg c185r20 none))) .skip)) (.seq (.seq (.reg c185r21 none) (.cond (Tm 93) (.seq (.reg c185r22 none) .ret) .skip)) (.seq (.reg c185r23 none) (.seq (.reg c185r24 none) (.seq (.reg c185r25 none) (.cond (Tm 107) (.seq (.reg c185r26 none) (.seq (.seq (.reg c185r27 none) (.cond (Tm 114) (.seq (.reg c185r28 none) .ret) .skip)) (.seq (.reg c185r29 none) .ret))) (.seq (.reg c185r30 none) (.cond (Tm 132) (.seq (.reg c185r31 none) (.seq (.seq (.reg c185r32 none) (.cond (Tm 139) (.seq (.reg c185r33 none) .ret) .skip)) (.seq (.reg c185r34 none) .ret))) .skip))))))))))
def c185r36 : List SI := [
 It 0 4 (.mv (K64 (-1)))]
def c185 : SC := (.seq (.reg c185r0 none) (.seq (.reg c185r1 none) (.seq (.block 0 (.seq (.reg c185r2 none) (.cond (Tm 16) (.seq (.reg c185r3 none) .ret) (.seq (.reg c185r4 none) (.cond (Tm 24) (.seq (.reg c185r5 none) .ret) (.seq (.reg c185r6 none) (.cond (Tm 31) (.seq (.reg c185r7 none) .ret) (.seq (.reg c185r8 none) (.cond (Tm 36) (.seq (.reg c185r9 none) .ret) .skip))))))))) (.seq (.reg c185r10 none) (.seq (.reg c185r11 none) (.seq (.reg c185r12 none) (.seq (.reg c185r13 none) (.seq (.reg c185r14 none) (.seq (.block 1 (.loop c185l35)) (.seq (.reg c185r36 none) .ret))))))))))
theorem c185_ok : compFn Tryz.prog c185D Tryz.f185 = some (c185, [.tmp 4]) := by kernel_rfl
def c221D : Nat → Option (List Nat) := fun _ => none
def c221r0 : List SI := [
 It 0 4 (.mv (K64 0))]
def c221r1 : List SI := [
 It 0 5 (.mv (Tm 0)),
 It 1 6 (.mv (Tm 1)),
 It 2 7 (.xcall 269 [(Tm 5), (Tm 6)] (.one (.int .i64))),
 It 3 4 (.mv (Tm 7))]
def c221 : SC := (.seq (.reg c221r0 none) (.seq (.reg c221r1 none) .ret))
theorem c221_ok : compFn Tryz.prog c221D Tryz.f221 = some (c221, [.tmp 4]) := by kernel_rfl
end Go.Proofs
