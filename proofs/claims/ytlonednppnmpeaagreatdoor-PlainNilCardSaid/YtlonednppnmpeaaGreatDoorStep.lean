/- PH: steps: what regions come to, an item at a time, and how branches are taken. -/
import Derived.Test.YtlonednppnmpeaaGreatDoorCode
set_option linter.all false
set_option linter.unusedSimpArgs false
namespace Go.PH
open Go
def gd2 (b : Bool) (A B : Prop) : Prop := (b = true → A) ∧ (b = false → B)
/-- A value that is there only if a condition holds. -/
def lz (c : Bool) (v : Value) : Value := if c = true then v else undef
def lzK (c : Bool) (W : (Value → Prop) → Prop) (K : Value → Prop) : Prop := (c = true → W K) ∧ (c = false → K undef)
theorem IB {v : Value} : lz true v = v := of_eq_true (eq_self _)
theorem IC {v : Value} : lz false v = undef := of_eq_true (eq_self _)
theorem ID {W : (Value → Prop) → Prop} {K : Value → Prop} : lzK true W K = W K := by simp [lzK]
theorem IE {W : (Value → Prop) → Prop} {K : Value → Prop} : lzK false W K = K undef := by simp [lzK]
theorem IF {c : Bool} {v : Value} {K : Value → Prop} : lzK c (fun K => K v) K = K (lz c v) := by cases c <;> simp [lzK, lz]
theorem IG {c : Bool} {A : Prop} {W : (Value → Prop) → Prop} {K : Value → Prop} : lzK c (fun K => A ∧ W K) K = ((c = true → A) ∧ lzK c W K) := by cases c <;> simp [lzK]
theorem lzK_c {c c' : Bool} {W W' : (Value → Prop) → Prop} {K : Value → Prop} (h : c = c') (k : c' = true → W = W') : lzK c W K = lzK c' W' K := by
  subst h
  cases c
  · simp [lzK]
  · rw [k rfl]
theorem lzK_ca {c c' d d' : Bool} {W W' : (Value → Prop) → Prop} {K : Value → Prop} (h : c = c') (h2 : d = d') (k : c' = true → d' = true → W = W') : lzK (c && d) W K = lzK (c' && d') W' K := by
  subst h h2
  cases c <;> cases d <;> first | (simp [lzK]; done) | rw [k rfl rfl]
theorem IH {b : Bool} : gB (.bool b) true = b := by cases b <;> rfl
theorem II {b : Bool} : gB (.bool b) false = !b := by cases b <;> rfl
theorem IJ {c w : Bool} {v : Value} : gB (lz c v) w = (c && gB v w) := by cases c <;> simp [lz, gB, undef]
theorem IN {b c : Bool} {K : Value → Prop} : pickC (.bool b) (lz b (.bool c)) (.bool false) K = K (.bool (b && c)) := by cases b <;> simp [pickC, lz]
theorem IP {b c : Bool} {K : Value → Prop} : pickC (.bool b) (.bool c) (.bool false) K = K (.bool (b && c)) := by cases b <;> simp [pickC]
theorem IQ {b c : Bool} {K : Value → Prop} : pickC (.bool b) (.bool true) (lz (!b) (.bool c)) K = K (.bool (b || c)) := by cases b <;> simp [pickC, lz]
theorem IR {b c : Bool} {K : Value → Prop} : pickC (.bool b) (.bool true) (.bool c) K = K (.bool (b || c)) := by cases b <;> simp [pickC]
theorem pick_gen {b : Bool} {x y : Value} {K : Value → Prop} : pickC (.bool b) x y K = ((b = true → K x) ∧ (b = false → K y)) := propext Iff.rfl
theorem pick_bool {b c d : Bool} {K : Value → Prop} : pickC (.bool b) (.bool c) (.bool d) K = K (.bool (if b = true then c else d)) := by cases b <;> simp [pickC]
def rsc (c : CK) (v : Value) (S : Hp) (K : Value → Prop) : Prop :=
  match v with
  | .pointer (some a) => typd c fun v => S.cell? a = some v ∧ K v
  | _ => False
def rsca (cs : List CK) (v : Value) (S : Hp) (K : Value → Prop) : Prop :=
  match v with
  | .pointer (some a) => loadsC S a 0 cs fun l => K (.agg l.toArray)
  | _ => False
/-! equations -/
theorem DM {x : Operand} {ρ : Operand → Value} {K : Value → Prop} : pureR (.mv x) ρ K = K (ρ x) := propext Iff.rfl
theorem DN {c a b : Operand} {ρ : Operand → Value} {K : Value → Prop} : pureR (.pick c a b) ρ K = pickC (ρ c) (ρ a) (ρ b) K := propext Iff.rfl
theorem DO {op : BinOp} {x y : Operand} {ρ : Operand → Value} {K : Value → Prop} : pureR (.bin op x y) ρ K = binC op (ρ x) (ρ y) K := propext Iff.rfl
theorem DP {op : BinOp} {x y : Operand} {ρ : Operand → Value} {K : Value → Prop} : pureR (.sh op x y) ρ K = shC op (ρ x) (ρ y) K := propext Iff.rfl
theorem DQ {op : BinOp} {x y : Operand} {ρ : Operand → Value} {K : Value → Prop} : pureR (.sop op x y) ρ K = sopC op (ρ x) (ρ y) K := propext Iff.rfl
theorem DR {n : Bool} {x y : Operand} {ρ : Operand → Value} {K : Value → Prop} : pureR (.beq n x y) ρ K = beqC n (ρ x) (ρ y) K := propext Iff.rfl
theorem DS {c : CK} {n : Bool} {x y : Operand} {ρ : Operand → Value} {K : Value → Prop} : pureR (.nileq c n x y) ρ K = nileqC c n (ρ x) (ρ y) K := propext Iff.rfl
theorem DT {x : Operand} {ρ : Operand → Value} {K : Value → Prop} : pureR (.neg x) ρ K = negC (ρ x) K := propext Iff.rfl
theorem DU {x : Operand} {ρ : Operand → Value} {K : Value → Prop} : pureR (.notb x) ρ K = notC (ρ x) K := propext Iff.rfl
theorem DV {k : IntKind} {x : Operand} {ρ : Operand → Value} {K : Value → Prop} : pureR (.cvt k x) ρ K = cvtC k (ρ x) K := propext Iff.rfl
theorem DW {x : Operand} {ρ : Operand → Value} {K : Value → Prop} : pureR (.runestr x) ρ K = runeC (ρ x) K := propext Iff.rfl
theorem DX {x : Operand} {i : Nat} {ρ : Operand → Value} {K : Value → Prop} : pureR (.ext x i) ρ K = extC (ρ x) i K := propext Iff.rfl
theorem DY {o n : Nat} {a : Bool} {x : Operand} {ρ : Operand → Value} {K : Value → Prop} : pureR (.fld o n a x) ρ K = fldC o n a (ρ x) K := propext Iff.rfl
theorem DZ {z : List Value} {ps : List (Nat × Nat × Operand)} {ρ : Operand → Value} {K : Value → Prop} : pureR (.build z ps) ρ K = fillC z (ps.map fun p => (p.1, p.2.1, ρ p.2.2)) fun l => K (.agg l.toArray) := propext Iff.rfl
theorem EA {x i : Operand} {ρ : Operand → Value} {K : Value → Prop} : pureR (.idx x i) ρ K = idxC (ρ x) (ρ i) K := propext Iff.rfl
theorem EB {x : Operand} {lo hi : Option Operand} {ρ : Operand → Value} {K : Value → Prop} : pureR (.slstr x lo hi) ρ K = slstrC (ρ x) (lo.map ρ) (hi.map ρ) K := propext Iff.rfl
theorem EC {n : Nat} {x : Operand} {lo hi mx : Option Operand} {ρ : Operand → Value} {K : Value → Prop} : pureR (.slsl n x lo hi mx) ρ K = slslC n (ρ x) (lo.map ρ) (hi.map ρ) (mx.map ρ) K := propext Iff.rfl
theorem ED {o : Nat} {x : Operand} {ρ : Operand → Value} {K : Value → Prop} : pureR (.fa o x) ρ K = faC o (ρ x) K := propext Iff.rfl
theorem EE {n : Nat} {x i : Operand} {ρ : Operand → Value} {K : Value → Prop} : pureR (.ia n x i) ρ K = iaC n (ρ x) (ρ i) K := propext Iff.rfl
theorem EF {x : Operand} {ρ : Operand → Value} {K : Value → Prop} : pureR (.nilc x) ρ K = nilC (ρ x) K := propext Iff.rfl
theorem EG {t : TypeId} {x : Operand} {ρ : Operand → Value} {K : Value → Prop} : pureR (.mkif t x) ρ K = K (.iface t (ρ x)) := propext Iff.rfl
theorem EH {f : Fn} {a b : List Operand} {ρ : Operand → Value} {K : Value → Prop} : pureR (.mkfn f a b) ρ K = K (.func f (a.map ρ).toArray (b.map ρ).toArray) := propext Iff.rfl
theorem EI {b : Bool} {x : Operand} {ρ : Operand → Value} {K : Value → Prop} : pureR (.len b x) ρ K = lenC b (ρ x) K := propext Iff.rfl
theorem EJ {x : Operand} {ρ : Operand → Value} {K : Value → Prop} : pureR (.capp x) ρ K = capC (ρ x) K := propext Iff.rfl
theorem EK {x y : Operand} {ρ : Operand → Value} {K : Value → Prop} : pureR (.maxi x y) ρ K = maxC (ρ x) (ρ y) K := propext Iff.rfl
theorem HE {c : CK} {x : Operand} {ρ : Operand → Value} {S : Hp} {K : Value → (Hp → Prop) → Prop} : readR (.ld c x) ρ S K = ldC c (ρ x) S K := propext Iff.rfl
theorem HF {c : List CK} {x : Operand} {ρ : Operand → Value} {S : Hp} {K : Value → (Hp → Prop) → Prop} : readR (.lda c x) ρ S K = ldaC c (ρ x) S K := propext Iff.rfl
theorem HG {x : Operand} {ρ : Operand → Value} {S : Hp} {K : Value → (Hp → Prop) → Prop} : readR (.ldbytes x) ρ S K = ldbC (ρ x) S K := propext Iff.rfl
theorem DG {x y : Operand} {ρ : Operand → Value} {K : Value → Prop} : pureR (.mini x y) ρ K = minC (ρ x) (ρ y) K := propext Iff.rfl
theorem DH {n : Bool} {cs : List CK} {x y : Operand} {ρ : Operand → Value} {K : Value → Prop} : pureR (.eqs n cs x y) ρ K = eqsC n cs (ρ x) (ρ y) K := propext Iff.rfl
theorem DI {a b : Nat} {g : Bool} {x y : Operand} {ρ : Operand → Value} {K : Value → Prop} : pureR (.idxa a b g x y) ρ K = idxaC a b g (ρ x) (ρ y) K := propext Iff.rfl
theorem DJ {a b : Nat} {x y : Operand} {ρ : Operand → Value} {K : Value → Prop} : pureR (.iap a b x y) ρ K = iapC a b (ρ x) (ρ y) K := propext Iff.rfl
theorem DK {a b : Nat} {x : Operand} {lo hi : Option Operand} {ρ : Operand → Value} {K : Value → Prop} : pureR (.slarr a b x lo hi) ρ K = slarrC a b (ρ x) (lo.map ρ) (hi.map ρ) K := propext Iff.rfl
theorem DL {ρ : Operand → Value} {K : Value → Prop} : pureR .bad ρ K = False := propext Iff.rfl
theorem GZ {s o : Bool} {z : Value} {x k : Operand} {ρ : Operand → Value} {S : Hp} {K : Value → (Hp → Prop) → Prop} : readR (.lk s z o x k) ρ S K = lkC s z o (ρ x) (ρ k) S K := propext Iff.rfl
theorem HA {c : Bool} {K : Value → Prop} : lzK c (fun _ => False) K = (c = false ∧ K undef) := by cases c <;> simp [lzK]
theorem HH {e : Env} {t : Nat} : ev e (.tmp t) = e t := of_eq_true (eq_self _)
theorem HI {e : Env} {v : Value} : ev e (.const v) = v := of_eq_true (eq_self _)
theorem HJ {e : Env} {g : Nat} : ev e (.global g) = .pointer (some ⟨g, 0, none⟩) := of_eq_true (eq_self _)
theorem HK {e : Env} {f : FuncId} : ev e (.func f) = .func (.func f) #[] #[] := of_eq_true (eq_self _)
theorem HL {a : List Value} {t : Nat} : env0 a t = a.getD t undef := of_eq_true (eq_self _)
theorem MK {next : Env → Hp → Prop} {Q : Exit → Env → Hp → Prop} {e : Env} {S : Hp} : seqK next Q .normal e S = next e S := propext Iff.rfl
theorem ML {next : Env → Hp → Prop} {Q : Exit → Env → Hp → Prop} {e : Env} {S : Hp} {j : Nat} : seqK next Q (.exit j) e S = Q (.exit j) e S := propext Iff.rfl
theorem MM {next : Env → Hp → Prop} {Q : Exit → Env → Hp → Prop} {e : Env} {S : Hp} : seqK next Q .ret e S = Q .ret e S := propext Iff.rfl
theorem MN {id : Nat} {Q : Exit → Env → Hp → Prop} {e : Env} {S : Hp} : blkK id Q .normal e S = Q .normal e S := propext Iff.rfl
theorem MO {id j : Nat} {Q : Exit → Env → Hp → Prop} {e : Env} {S : Hp} (h : j = id) : blkK id Q (.exit j) e S = Q .normal e S := by subst h; simp [blkK]
theorem MP {id j : Nat} {Q : Exit → Env → Hp → Prop} {e : Env} {S : Hp} (h : j ≠ id) : blkK id Q (.exit j) e S = Q (.exit j) e S := by simp [blkK, h]
theorem MQ {id : Nat} {Q : Exit → Env → Hp → Prop} {e : Env} {S : Hp} : blkK id Q .ret e S = Q .ret e S := propext Iff.rfl
theorem MU {Q : Exit → Env → Hp → Prop} {e : Env} {S : Hp} : scopeK Q .normal e S = Q .normal e S := propext Iff.rfl
theorem MV {Q : Exit → Env → Hp → Prop} {e : Env} {S : Hp} {j : Nat} : scopeK Q (.exit j) e S = Q (.exit j) e S := propext Iff.rfl
theorem MW {Q : Exit → Env → Hp → Prop} {e : Env} {S : Hp} : scopeK Q .ret e S = Q .ret e S := propext Iff.rfl
theorem AA {rs : List RV} {Q : Value → Hp → Prop} {e : Env} {S : Hp} : finQ rs Q .normal e S = resC rs e S fun vs => ∃ S', S'.le S ∧ Q (oneV vs) S' := propext Iff.rfl
theorem AB {rs : List RV} {Q : Value → Hp → Prop} {e : Env} {S : Hp} : finQ rs Q .ret e S = resC rs e S fun vs => ∃ S', S'.le S ∧ Q (oneV vs) S' := propext Iff.rfl
theorem AC {e : Env} {S : Hp} {K : List Value → Prop} : resC [] e S K = K [] := propext Iff.rfl
theorem AD {e : Env} {S : Hp} {K : List Value → Prop} {t : Nat} {rs : List RV} : resC (.tmp t :: rs) e S K = resC rs e S fun vs => K (e t :: vs) := propext Iff.rfl
theorem AE {e : Env} {S : Hp} {K : List Value → Prop} {t : Nat} {c : CK} {rs : List RV} : resC (.cell t c :: rs) e S K = rsc c (e t) S fun v => resC rs e S fun vs => K (v :: vs) := propext Iff.rfl
theorem AF {e : Env} {S : Hp} {K : List Value → Prop} {t : Nat} {cs : List CK} {rs : List RV} : resC (.cella t cs :: rs) e S K = rsca cs (e t) S fun v => resC rs e S fun vs => K (v :: vs) := propext Iff.rfl
theorem AI {v : Value} : oneV [v] = v := of_eq_true (eq_self _)
theorem AJ : oneV [] = .tuple #[] := of_eq_true (eq_self _)
theorem AK {v u : Value} {l : List Value} : oneV (v :: u :: l) = .tuple (v :: u :: l).toArray := of_eq_true (eq_self _)
theorem HM {k : IntKind} {m n : Int} {K : Value → Prop} : arith .add k m n K = K (.int k (k.wrap (m + n))) := propext Iff.rfl
theorem HN {k : IntKind} {m n : Int} {K : Value → Prop} : arith .sub k m n K = K (.int k (k.wrap (m - n))) := propext Iff.rfl
theorem HO {k : IntKind} {m n : Int} {K : Value → Prop} : arith .mul k m n K = K (.int k (k.wrap (m * n))) := propext Iff.rfl
theorem HP {k : IntKind} {m n : Int} {K : Value → Prop} : arith .quo k m n K = (n ≠ 0 ∧ K (.int k (k.wrap (m.tdiv n)))) := propext Iff.rfl
theorem HQ {k : IntKind} {m n : Int} {K : Value → Prop} : arith .rem k m n K = (n ≠ 0 ∧ K (.int k (m.tmod n))) := propext Iff.rfl
theorem HR {k : IntKind} {m n : Int} {K : Value → Prop} : arith .and k m n K = K (.int k (bitsV .and k m n)) := propext Iff.rfl
theorem HS {k : IntKind} {m n : Int} {K : Value → Prop} : arith .or k m n K = K (.int k (bitsV .or k m n)) := propext Iff.rfl
theorem HT {k : IntKind} {m n : Int} {K : Value → Prop} : arith .xor k m n K = K (.int k (bitsV .xor k m n)) := propext Iff.rfl
theorem HU {k : IntKind} {m n : Int} {K : Value → Prop} : arith .andNot k m n K = K (.int k (bitsV .andNot k m n)) := propext Iff.rfl
theorem HV {k : IntKind} {m n : Int} {K : Value → Prop} : arith .eql k m n K = K (.bool (m == n)) := propext Iff.rfl
theorem HW {k : IntKind} {m n : Int} {K : Value → Prop} : arith .neq k m n K = K (.bool (m != n)) := propext Iff.rfl
theorem HX {k : IntKind} {m n : Int} {K : Value → Prop} : arith .lss k m n K = K (.bool (decide (m < n))) := propext Iff.rfl
theorem HY {k : IntKind} {m n : Int} {K : Value → Prop} : arith .leq k m n K = K (.bool (decide (m ≤ n))) := propext Iff.rfl
theorem HZ {k : IntKind} {m n : Int} {K : Value → Prop} : arith .gtr k m n K = K (.bool (decide (m > n))) := propext Iff.rfl
theorem IA {k : IntKind} {m n : Int} {K : Value → Prop} : arith .geq k m n K = K (.bool (decide (m ≥ n))) := propext Iff.rfl
/-! classes -/
theorem EY {a0} : clsR (.mv a0) = 0 := of_decide_eq_true rfl
theorem EZ {a0 a1 a2} : clsR (.pick a0 a1 a2) = 0 := of_decide_eq_true rfl
theorem FA {a0 a1 a2} : clsR (.bin a0 a1 a2) = 0 := of_decide_eq_true rfl
theorem FB {a0 a1 a2} : clsR (.sh a0 a1 a2) = 0 := of_decide_eq_true rfl
theorem FD {a0 a1 a2} : clsR (.sop a0 a1 a2) = 0 := of_decide_eq_true rfl
theorem FE {a0 a1 a2} : clsR (.beq a0 a1 a2) = 0 := of_decide_eq_true rfl
theorem FF {a0 a1 a2 a3} : clsR (.nileq a0 a1 a2 a3) = 0 := of_decide_eq_true rfl
theorem FG {a0} : clsR (.neg a0) = 0 := of_decide_eq_true rfl
theorem FH {a0} : clsR (.notb a0) = 0 := of_decide_eq_true rfl
theorem FI {a0 a1} : clsR (.cvt a0 a1) = 0 := of_decide_eq_true rfl
theorem FJ {a0} : clsR (.runestr a0) = 0 := of_decide_eq_true rfl
theorem FK {a0 a1} : clsR (.ext a0 a1) = 0 := of_decide_eq_true rfl
theorem FL {a0 a1 a2 a3} : clsR (.fld a0 a1 a2 a3) = 0 := of_decide_eq_true rfl
theorem FM {a0 a1} : clsR (.build a0 a1) = 0 := of_decide_eq_true rfl
theorem FN {a0 a1} : clsR (.idx a0 a1) = 0 := of_decide_eq_true rfl
theorem FO {a0 a1 a2} : clsR (.slstr a0 a1 a2) = 0 := of_decide_eq_true rfl
theorem FP {a0 a1 a2 a3 a4} : clsR (.slsl a0 a1 a2 a3 a4) = 0 := of_decide_eq_true rfl
theorem FQ {a0 a1} : clsR (.fa a0 a1) = 0 := of_decide_eq_true rfl
theorem FR {a0 a1 a2} : clsR (.ia a0 a1 a2) = 0 := of_decide_eq_true rfl
theorem FS {a0} : clsR (.nilc a0) = 0 := of_decide_eq_true rfl
theorem FT {a0 a1} : clsR (.mkif a0 a1) = 0 := of_decide_eq_true rfl
theorem FU {a0 a1 a2} : clsR (.mkfn a0 a1 a2) = 0 := of_decide_eq_true rfl
theorem FV {a0 a1} : clsR (.len a0 a1) = 0 := of_decide_eq_true rfl
theorem FW {a0} : clsR (.capp a0) = 0 := of_decide_eq_true rfl
theorem FX {a0 a1} : clsR (.maxi a0 a1) = 0 := of_decide_eq_true rfl
theorem FY {a0 a1} : clsR (.ld a0 a1) = 1 := of_decide_eq_true rfl
theorem FZ {a0 a1} : clsR (.lda a0 a1) = 1 := of_decide_eq_true rfl
theorem GA {a0} : clsR (.ldbytes a0) = 1 := of_decide_eq_true rfl
theorem GB {a0 a1} : clsR (.alloc a0 a1) = 2 := of_decide_eq_true rfl
theorem GC {a0 a1} : clsR (.box a0 a1) = 2 := of_decide_eq_true rfl
theorem GD {a0 a1 a2 a3} : clsR (.bslice a0 a1 a2 a3) = 2 := of_decide_eq_true rfl
theorem GE {a0 a1 a2} : clsR (.st a0 a1 a2) = 3 := of_decide_eq_true rfl
theorem GF {a0 a1 a2} : clsR (.call a0 a1 a2) = 3 := of_decide_eq_true rfl
theorem GG {a0 a1 a2} : clsR (.callv a0 a1 a2) = 3 := of_decide_eq_true rfl
theorem GH {a0 a1 a2 a3 a4 a5} : clsR (.app a0 a1 a2 a3 a4 a5) = 3 := of_decide_eq_true rfl
theorem GI {a0 a1} : clsR (.strb a0 a1) = 3 := of_decide_eq_true rfl
theorem GJ : clsR .mkmap = 2 := of_decide_eq_true rfl
theorem EL {a0 a1} : clsR (.mini a0 a1) = 0 := of_decide_eq_true rfl
theorem EM {a0 a1 a2 a3} : clsR (.eqs a0 a1 a2 a3) = 0 := of_decide_eq_true rfl
theorem EN {a0 a1 a2 a3 a4} : clsR (.idxa a0 a1 a2 a3 a4) = 0 := of_decide_eq_true rfl
theorem EO {a0 a1 a2 a3} : clsR (.iap a0 a1 a2 a3) = 0 := of_decide_eq_true rfl
theorem EP {a0 a1 a2 a3 a4} : clsR (.slarr a0 a1 a2 a3 a4) = 0 := of_decide_eq_true rfl
theorem EQ : clsR .bad = 0 := of_decide_eq_true rfl
theorem ER {a0 a1 a2 a3 a4} : clsR (.lk a0 a1 a2 a3 a4) = 1 := of_decide_eq_true rfl
theorem ES {a0 a1 a2 a3 a4} : clsR (.mksl a0 a1 a2 a3 a4) = 2 := of_decide_eq_true rfl
theorem ET {a0 a1 a2} : clsR (.copy a0 a1 a2) = 3 := of_decide_eq_true rfl
theorem EU {a0 a1 a2 a3} : clsR (.mset a0 a1 a2 a3) = 3 := of_decide_eq_true rfl
theorem EV {a0 a1 a2} : clsR (.mdel a0 a1 a2) = 3 := of_decide_eq_true rfl
theorem EW {a0 a1 a2} : clsR (.xcall a0 a1 a2) = 3 := of_decide_eq_true rfl
theorem EX {a0 a1 a2 a3 a4 a5} : clsR (.appz a0 a1 a2 a3 a4 a5) = 3 := of_decide_eq_true rfl
/-- What stands behind: kept folded. -/
def kont (P : Program) (N : Nat) (b : SC) (Q : Exit → Env → Hp → Prop) : Env → Hp → Prop := fun e S => sC P N b e S Q
section
variable {P : Program} {N i id : Nat} {M : Option (List (List Nat))} {Q : Env → Hp → Prop} {l : List SI} {e : Env} {S : Hp} {G : GL} {d : Nat} {g : Option (Nat × Bool)} {sr : Bool} {r : RO}
/-- What stands behind a call, in a region: kept folded. -/
def regK (P : Program) (N : Nat) (M : Option (List (List Nat))) (Q : Env → Hp → Prop) (i : Nat) (d : Option Nat) (l : List SI) (e : Env) (G : GL) : Value → Hp → Prop := fun v S' => holdC M i S' G ∧ putC N d v e fun e' => regC P N M Q l e' S' G
/-- What stands behind a block laid: kept folded. -/
def newK (P : Program) (N : Nat) (M : Option (List (List Nat))) (Q : Env → Hp → Prop) (d : Nat) (g : Nat → Value) (l : List SI) (e : Env) (G : GL) : Nat → Hp → Prop := fun n S' => d < N ∧ regC P N M Q l (upd e d (g n)) S' G
def allK (P : Program) (N : Nat) (M : Option (List (List Nat))) (Q : Env → Hp → Prop) (d : Nat) (l : List SI) (e : Env) (G : GL) : Value → Hp → Prop := fun v S' => d < N ∧ regC P N M Q l (upd e d v) S' G
theorem AT : regC P N M Q [] e S G = Q e S := propext Iff.rfl
theorem rg_item : regC P N M Q (⟨i, some d, none, false, r⟩ :: l) e S G = stepC P M ⟨i, some d, none, false, r⟩ e S G fun v S' G' => d < N ∧ regC P N M Q l (upd e d v) S' G' := propext Iff.rfl
theorem AU {x : Operand} : regC P N M Q (⟨i, some d, none, false, .mv x⟩ :: l) e S G = (d < N ∧ regC P N M Q l (upd e d (ev e x)) S G) := propext Iff.rfl
theorem AV {b : Bool} {x : Operand} : regC P N M Q (⟨i, some d, none, false, .len b x⟩ :: l) e S G = lenC b (ev e x) fun v => d < N ∧ regC P N M Q l (upd e d v) S G := propext Iff.rfl
theorem AW {x : Operand} : regC P N M Q (⟨i, some d, none, false, .capp x⟩ :: l) e S G = capC (ev e x) fun v => d < N ∧ regC P N M Q l (upd e d v) S G := propext Iff.rfl
theorem AX {op : BinOp} {x y : Operand} : regC P N M Q (⟨i, some d, none, false, .bin op x y⟩ :: l) e S G = binC op (ev e x) (ev e y) fun v => d < N ∧ regC P N M Q l (upd e d v) S G := propext Iff.rfl
theorem AY {op : BinOp} {x y : Operand} : regC P N M Q (⟨i, some d, none, false, .sop op x y⟩ :: l) e S G = sopC op (ev e x) (ev e y) fun v => d < N ∧ regC P N M Q l (upd e d v) S G := propext Iff.rfl
theorem AZ {op : BinOp} {x y : Operand} : regC P N M Q (⟨i, some d, none, false, .sh op x y⟩ :: l) e S G = shC op (ev e x) (ev e y) fun v => d < N ∧ regC P N M Q l (upd e d v) S G := propext Iff.rfl
theorem BA {b : Bool} {x y : Operand} : regC P N M Q (⟨i, some d, none, false, .beq b x y⟩ :: l) e S G = beqC b (ev e x) (ev e y) fun v => d < N ∧ regC P N M Q l (upd e d v) S G := propext Iff.rfl
theorem BB {c : CK} {b : Bool} {x y : Operand} : regC P N M Q (⟨i, some d, none, false, .nileq c b x y⟩ :: l) e S G = nileqC c b (ev e x) (ev e y) fun v => d < N ∧ regC P N M Q l (upd e d v) S G := propext Iff.rfl
theorem BC {x : Operand} : regC P N M Q (⟨i, some d, none, false, .neg x⟩ :: l) e S G = negC (ev e x) fun v => d < N ∧ regC P N M Q l (upd e d v) S G := propext Iff.rfl
theorem BD {x : Operand} : regC P N M Q (⟨i, some d, none, false, .notb x⟩ :: l) e S G = notC (ev e x) fun v => d < N ∧ regC P N M Q l (upd e d v) S G := propext Iff.rfl
theorem BE {k : IntKind} {x : Operand} : regC P N M Q (⟨i, some d, none, false, .cvt k x⟩ :: l) e S G = cvtC k (ev e x) fun v => d < N ∧ regC P N M Q l (upd e d v) S G := propext Iff.rfl
theorem BF {x : Operand} : regC P N M Q (⟨i, some d, none, false, .runestr x⟩ :: l) e S G = runeC (ev e x) fun v => d < N ∧ regC P N M Q l (upd e d v) S G := propext Iff.rfl
theorem BG {j : Nat} {x : Operand} : regC P N M Q (⟨i, some d, none, false, .ext x j⟩ :: l) e S G = extC (ev e x) j fun v => d < N ∧ regC P N M Q l (upd e d v) S G := propext Iff.rfl
theorem BH {o n : Nat} {b : Bool} {x : Operand} : regC P N M Q (⟨i, some d, none, false, .fld o n b x⟩ :: l) e S G = fldC o n b (ev e x) fun v => d < N ∧ regC P N M Q l (upd e d v) S G := propext Iff.rfl
theorem BI {x y : Operand} : regC P N M Q (⟨i, some d, none, false, .maxi x y⟩ :: l) e S G = maxC (ev e x) (ev e y) fun v => d < N ∧ regC P N M Q l (upd e d v) S G := propext Iff.rfl
theorem BJ {x y z : Operand} : regC P N M Q (⟨i, some d, none, false, .pick x y z⟩ :: l) e S G = pickC (ev e x) (ev e y) (ev e z) fun v => d < N ∧ regC P N M Q l (upd e d v) S G := propext Iff.rfl
theorem BK {x y : Operand} : regC P N M Q (⟨i, some d, none, false, .idx x y⟩ :: l) e S G = idxC (ev e x) (ev e y) fun v => d < N ∧ regC P N M Q l (upd e d v) S G := propext Iff.rfl
theorem BL {x : Operand} {lo hi : Option Operand} : regC P N M Q (⟨i, some d, none, false, .slstr x lo hi⟩ :: l) e S G = slstrC (ev e x) (lo.map (ev e)) (hi.map (ev e)) fun v => d < N ∧ regC P N M Q l (upd e d v) S G := propext Iff.rfl
theorem BM {x : Operand} {n : Nat} {lo hi mx : Option Operand} : regC P N M Q (⟨i, some d, none, false, .slsl n x lo hi mx⟩ :: l) e S G = slslC n (ev e x) (lo.map (ev e)) (hi.map (ev e)) (mx.map (ev e)) fun v => d < N ∧ regC P N M Q l (upd e d v) S G := propext Iff.rfl
theorem BN {o : Nat} {x : Operand} : regC P N M Q (⟨i, some d, none, false, .fa o x⟩ :: l) e S G = faC o (ev e x) fun v => d < N ∧ regC P N M Q l (upd e d v) S G := propext Iff.rfl
theorem BO {o : Nat} {x y : Operand} : regC P N M Q (⟨i, some d, none, false, .ia o x y⟩ :: l) e S G = iaC o (ev e x) (ev e y) fun v => d < N ∧ regC P N M Q l (upd e d v) S G := propext Iff.rfl
theorem BP {x : Operand} : regC P N M Q (⟨i, some d, none, false, .nilc x⟩ :: l) e S G = nilC (ev e x) fun v => d < N ∧ regC P N M Q l (upd e d v) S G := propext Iff.rfl
theorem BQ {c : CK} {x : Operand} : regC P N M Q (⟨i, some d, none, false, .ld c x⟩ :: l) e S G = ldC c (ev e x) S fun v H => d < N ∧ regC P N M Q l (upd e d v) S ((i, H) :: G) := propext Iff.rfl
theorem BR {c : List CK} {x : Operand} : regC P N M Q (⟨i, some d, none, false, .lda c x⟩ :: l) e S G = ldaC c (ev e x) S fun v H => d < N ∧ regC P N M Q l (upd e d v) S ((i, H) :: G) := propext Iff.rfl
theorem BS {x : Operand} : regC P N M Q (⟨i, some d, none, false, .ldbytes x⟩ :: l) e S G = ldbC (ev e x) S fun v H => d < N ∧ regC P N M Q l (upd e d v) S ((i, H) :: G) := propext Iff.rfl
theorem BT {f : FuncId} {a : List Operand} {rk : RK} : regC P N M Q (⟨i, some d, none, false, .call f a rk⟩ :: l) e S G = callC P f (a.map (ev e)) rk S (regK P N M Q i (some d) l e G) := propext Iff.rfl
theorem BU {f : FuncId} {a : List Operand} {rk : RK} : regC P N M Q (⟨i, none, none, false, .call f a rk⟩ :: l) e S G = callC P f (a.map (ev e)) rk S (regK P N M Q i none l e G) := propext Iff.rfl
theorem BW {n : Nat} {x y : Operand} : regC P N M Q (⟨i, none, none, false, .st n x y⟩ :: l) e S G = stC n (ev e x) (ev e y) S fun _ S' => holdC M i S' G ∧ regC P N M Q l e S' G := propext Iff.rfl
theorem BX {a b c : Nat} {z : List Value} {s x : Operand} : regC P N M Q (⟨i, some d, none, false, .app a b c z s x⟩ :: l) e S G = appC a b c z (ev e s) (ev e x) S (regK P N M Q i (some d) l e G) := propext Iff.rfl
/-! guards -/
theorem CR {t : TypeId} {z : List Value} : regC P N M Q (⟨i, some d, none, false, .alloc t z⟩ :: l) e S G = newC S (.cells z.toArray t (0, 0)) (newK P N M Q d (fun n => (.pointer (some ⟨n, 0, none⟩))) l e G) := propext Iff.rfl
theorem CS {t : TypeId} {x : Operand} : regC P N M Q (⟨i, some d, none, false, .box t x⟩ :: l) e S G = newC S (.cells (ev e x).cells t (0, 0)) (newK P N M Q d (fun n => (.pointer (some ⟨n, 0, none⟩))) l e G) := propext Iff.rfl
theorem CT {t : TypeId} {n : Nat} {z : List Value} {ps : List (Nat × Nat × Operand)} : regC P N M Q (⟨i, some d, none, false, .bslice t n z ps⟩ :: l) e S G = fillC z (ps.map fun p => (p.1, p.2.1, ev e p.2.2)) fun c => newC S (.cells c.toArray t (0, 0)) (newK P N M Q d (fun b => (.slice (some ⟨b, 0, none⟩) n n)) l e G) := propext Iff.rfl
theorem CU {z : List Value} {ps : List (Nat × Nat × Operand)} : regC P N M Q (⟨i, some d, none, false, .build z ps⟩ :: l) e S G = fillC z (ps.map fun p => (p.1, p.2.1, ev e p.2.2)) fun c => d < N ∧ regC P N M Q l (upd e d (.agg c.toArray)) S G := propext Iff.rfl
theorem CV : regC P N M Q (⟨i, some d, none, false, .mkmap⟩ :: l) e S G = newC S (.map #[] 0) (newK P N M Q d (fun n => (.map (some n))) l e G) := propext Iff.rfl
theorem CW {t : TypeId} {x : Operand} : regC P N M Q (⟨i, some d, none, false, .mkif t x⟩ :: l) e S G = (d < N ∧ regC P N M Q l (upd e d (.iface t (ev e x))) S G) := propext Iff.rfl
theorem CX {f : Fn} {a b : List Operand} : regC P N M Q (⟨i, some d, none, false, .mkfn f a b⟩ :: l) e S G = (d < N ∧ regC P N M Q l (upd e d (.func f (a.map (ev e)).toArray (b.map (ev e)).toArray)) S G) := propext Iff.rfl
theorem CY {g : Operand} {a : List Operand} {rk : RK} : regC P N M Q (⟨i, some d, none, false, .callv g a rk⟩ :: l) e S G = callvC P (ev e g) (a.map (ev e)) rk S (regK P N M Q i (some d) l e G) := propext Iff.rfl
theorem CZ {t : TypeId} {x : Operand} : regC P N M Q (⟨i, some d, none, false, .strb t x⟩ :: l) e S G = strbC t (ev e x) S (regK P N M Q i (some d) l e G) := propext Iff.rfl
theorem BY {x y : Operand} : regC P N M Q (⟨i, some d, none, false, .mini x y⟩ :: l) e S G = minC (ev e x) (ev e y) fun v => d < N ∧ regC P N M Q l (upd e d v) S G := propext Iff.rfl
theorem BZ {b : Bool} {cs : List CK} {x y : Operand} : regC P N M Q (⟨i, some d, none, false, .eqs b cs x y⟩ :: l) e S G = eqsC b cs (ev e x) (ev e y) fun v => d < N ∧ regC P N M Q l (upd e d v) S G := propext Iff.rfl
theorem CA {o n : Nat} {b : Bool} {x y : Operand} : regC P N M Q (⟨i, some d, none, false, .idxa o n b x y⟩ :: l) e S G = idxaC o n b (ev e x) (ev e y) fun v => d < N ∧ regC P N M Q l (upd e d v) S G := propext Iff.rfl
theorem CB {o n : Nat} {x y : Operand} : regC P N M Q (⟨i, some d, none, false, .iap o n x y⟩ :: l) e S G = iapC o n (ev e x) (ev e y) fun v => d < N ∧ regC P N M Q l (upd e d v) S G := propext Iff.rfl
theorem CC {o n : Nat} {x : Operand} {lo hi : Option Operand} : regC P N M Q (⟨i, some d, none, false, .slarr o n x lo hi⟩ :: l) e S G = slarrC o n (ev e x) (lo.map (ev e)) (hi.map (ev e)) fun v => d < N ∧ regC P N M Q l (upd e d v) S G := propext Iff.rfl
theorem CD {dst : Option Nat} : regC P N M Q (⟨i, dst, none, false, .bad⟩ :: l) e S G = False := propext Iff.rfl
theorem CE {b o : Bool} {z : Value} {x k : Operand} : regC P N M Q (⟨i, some d, none, false, .lk b z o x k⟩ :: l) e S G = lkC b z o (ev e x) (ev e k) S fun v H => d < N ∧ regC P N M Q l (upd e d v) S ((i, H) :: G) := propext Iff.rfl
theorem CF {t : TypeId} {b : Nat} {z : List Value} {x y : Operand} : regC P N M Q (⟨i, some d, none, false, .mksl t b z x y⟩ :: l) e S G = mkslC t b z (ev e x) (ev e y) S (allK P N M Q d l e G) := propext Iff.rfl
theorem CG {n : Nat} {x y : Operand} : regC P N M Q (⟨i, some d, none, false, .copy n x y⟩ :: l) e S G = copyC n (ev e x) (ev e y) S (regK P N M Q i (some d) l e G) := propext Iff.rfl
theorem CH {n : Nat} {x y : Operand} : regC P N M Q (⟨i, none, none, false, .copy n x y⟩ :: l) e S G = copyC n (ev e x) (ev e y) S (regK P N M Q i none l e G) := propext Iff.rfl
theorem CI {b : Bool} {x y z : Operand} : regC P N M Q (⟨i, some d, none, false, .mset b x y z⟩ :: l) e S G = msetC b (ev e x) (ev e y) (ev e z) S (regK P N M Q i (some d) l e G) := propext Iff.rfl
theorem CJ {b : Bool} {x y z : Operand} : regC P N M Q (⟨i, none, none, false, .mset b x y z⟩ :: l) e S G = msetC b (ev e x) (ev e y) (ev e z) S (regK P N M Q i none l e G) := propext Iff.rfl
theorem CL {b : Bool} {x y : Operand} : regC P N M Q (⟨i, some d, none, false, .mdel b x y⟩ :: l) e S G = mdelC b (ev e x) (ev e y) S (regK P N M Q i (some d) l e G) := propext Iff.rfl
theorem CM {b : Bool} {x y : Operand} : regC P N M Q (⟨i, none, none, false, .mdel b x y⟩ :: l) e S G = mdelC b (ev e x) (ev e y) S (regK P N M Q i none l e G) := propext Iff.rfl
theorem CN {f : FuncId} {a : List Operand} {rk : RK} : regC P N M Q (⟨i, some d, none, false, .xcall f a rk⟩ :: l) e S G = xcallC P f (a.map (ev e)) rk S (regK P N M Q i (some d) l e G) := propext Iff.rfl
theorem CO {f : FuncId} {a : List Operand} {rk : RK} : regC P N M Q (⟨i, none, none, false, .xcall f a rk⟩ :: l) e S G = xcallC P f (a.map (ev e)) rk S (regK P N M Q i none l e G) := propext Iff.rfl
theorem CP {a b c : Nat} {z : List Value} {s x : Operand} : regC P N M Q (⟨i, some d, none, false, .appz a b c z s x⟩ :: l) e S G = appzC a b c z (ev e s) (ev e x) S (regK P N M Q i (some d) l e G) := propext Iff.rfl
theorem CQ {a b c : Nat} {z : List Value} {s x : Operand} : regC P N M Q (⟨i, none, none, false, .appz a b c z s x⟩ :: l) e S G = appzC a b c z (ev e s) (ev e x) S (regK P N M Q i none l e G) := propext Iff.rfl
theorem BV {g : Operand} {a : List Operand} {rk : RK} : regC P N M Q (⟨i, none, none, false, .callv g a rk⟩ :: l) e S G = callvC P (ev e g) (a.map (ev e)) rk S (regK P N M Q i none l e G) := propext Iff.rfl
theorem GK {v : Value} {S' : Hp} : regK P N M Q i (some d) l e G v S' = (holdC M i S' G ∧ (d < N ∧ regC P N M Q l (upd e d v) S' G)) := propext Iff.rfl
theorem GM {v : Value} {S' : Hp} : regK P N M Q i none l e G v S' = (holdC M i S' G ∧ regC P N M Q l e S' G) := propext Iff.rfl
theorem GN {g : Nat → Value} {n : Nat} {S' : Hp} : newK P N M Q d g l e G n S' = (d < N ∧ regC P N M Q l (upd e d (g n)) S' G) := propext Iff.rfl
theorem GO {v : Value} {S' : Hp} : allK P N M Q d l e G v S' = (d < N ∧ regC P N M Q l (upd e d v) S' G) := propext Iff.rfl
theorem IU {S : Hp} {i : Nat} : holdC none i S G = True := by cases G <;> rfl
theorem IV {z : List Value} {K : List Value → Prop} : fillC z [] K = K z := propext Iff.rfl
theorem IW {z : List Value} {o n : Nat} {v : Value} {r : List (Nat × Nat × Value)} {K : List Value → Prop} : fillC z ((o, n, v) :: r) K = (v.cells.size = n ∧ o + n ≤ z.length ∧ fillC (putAt z o v.cells.toList) r K) := propext Iff.rfl
theorem DA {t : Nat} {w : Bool} (h : clsR r = 0) : regC P N M Q (⟨i, some d, some (t, w), sr, r⟩ :: l) e S G = lzK (gB (e t) w) (fun K => pureR r (ev e) K) fun v => d < N ∧ regC P N M Q l (upd e d v) S G := by
  simp only [regC, gdC, stepC, h, lzK, IT, putC]
theorem regC_nn : ∀ {l : List SI} {e : Env} {S : Hp} (G G' : GL), regC P N none Q l e S G = regC P N none Q l e S G' := by
  intro l
  induction l with
  | nil => intros; rfl
  | cons it l ih =>
    intro e S G G'
    have h0 : ∀ S G G' v, (putC N it.dst v e fun e' => regC P N none Q l e' S G) = (putC N it.dst v e fun e' => regC P N none Q l e' S G') := by
      intro S G G' v; congr 1; funext e'; exact ih _ _
    have h1 : ∀ S G G', (fun v => putC N it.dst v e fun e' => regC P N none Q l e' S G) = (fun v => putC N it.dst v e fun e' => regC P N none Q l e' S G') := fun S G G' => funext fun v => h0 S G G' v
    simp only [regC, stepC]
    congr 1
    · split
      · congr 1; funext v; rw [h1 _ G G']
      · congr 1; funext v H; rw [h1 _ _ ((it.i, H) :: G')]
      · congr 1; funext v S'; rw [h0 _ G G']
      · congr 1; funext v S'; rw [h1 _ G G']; simp only [holdC]
    · exact h0 _ _ _ _
theorem IS {G : GL} : regC P N none Q l e S G = regC P N none Q l e S [] := regC_nn _ _
theorem DB {t : Nat} {w : Bool} (h : clsR r = 1) : regC P N none Q (⟨i, some d, some (t, w), sr, r⟩ :: l) e S G = lzK (gB (e t) w) (fun K => readR r (ev e) S fun v _ => K v) fun v => d < N ∧ regC P N none Q l (upd e d v) S [] := by
  simp only [regC, gdC, stepC, h, lzK, IT, putC]
  simp only [IS (G := G)]
  have : (fun (v : Value) (H : Hp → Prop) => d < N ∧ regC P N none Q l (upd e d v) S ((i, H) :: G)) = fun v _ => d < N ∧ regC P N none Q l (upd e d v) S [] := by
    funext v H; rw [IS (G := _ :: _)]
  rw [this]
theorem DD {t : Nat} {w : Bool} {dst : Option Nat} (_h : clsR r = 2) : regC P N M Q (⟨i, dst, some (t, w), sr, r⟩ :: l) e S G = gd2 (gB (e t) w) (regC P N M Q (⟨i, dst, none, sr, r⟩ :: l) e S G) (putC N dst undef e fun e' => regC P N M Q l e' S G) := propext Iff.rfl
theorem DE {t : Nat} {w : Bool} {dst : Option Nat} (_h : clsR r = 3) : regC P N M Q (⟨i, dst, some (t, w), sr, r⟩ :: l) e S G = gd2 (gB (e t) w) (regC P N M Q (⟨i, dst, none, sr, r⟩ :: l) e S G) (putC N dst undef e fun e' => regC P N M Q l e' S G) := propext Iff.rfl
theorem DC {m : List (List Nat)} {t : Nat} {w : Bool} {dst : Option Nat} (_h : clsR r = 1) : regC P N (some m) Q (⟨i, dst, some (t, w), sr, r⟩ :: l) e S G = gd2 (gB (e t) w) (regC P N (some m) Q (⟨i, dst, none, sr, r⟩ :: l) e S G) (putC N dst undef e fun e' => regC P N (some m) Q l e' S G) := propext Iff.rfl
theorem rg_gd {t : Nat} {w : Bool} {dst : Option Nat} : regC P N M Q (⟨i, dst, some (t, w), sr, r⟩ :: l) e S G = gd2 (gB (e t) w) (regC P N M Q (⟨i, dst, none, sr, r⟩ :: l) e S G) (putC N dst undef e fun e' => regC P N M Q l e' S G) := propext Iff.rfl
theorem DF {dst : Option Nat} : regC P N M Q (⟨i, dst, none, true, r⟩ :: l) e S G = regC P N M Q (⟨i, dst, none, false, r⟩ :: l) e S G := by
  simp only [regC, gdC, stepC, IT]
/-! code -/
variable {F : Exit → Env → Hp → Prop} {a b c : SC} {e' : Env} {S' : Hp}
theorem AL : sC P N (.reg l M) e S F = regC P N M (F .normal) l e S [] := propext Iff.rfl
theorem AM : sC P N .skip e S F = F .normal e S := propext Iff.rfl
theorem AN : sC P N .ret e S F = F .ret e S := propext Iff.rfl
theorem AO : sC P N (.exit id) e S F = F (.exit id) e S := propext Iff.rfl
theorem AP : sC P N (.block id c) e S F = sC P N c e S (blkK id F) := propext Iff.rfl
theorem AQ : sC P N (.scope c) e S F = sC P N c e S (scopeK F) := propext Iff.rfl
theorem AR {x : Operand} : sC P N (.cond x a b) e S F = condC (ev e x) (sC P N a e S F) (sC P N b e S F) := propext Iff.rfl
theorem AS : sC P N (.seq a b) e S F = sC P N a e S (seqK (kont P N b F) F) := propext Iff.rfl
theorem HD : sC P N .bad e S F = False := propext Iff.rfl
theorem kont_eq : kont P N b F e S = sC P N b e S F := propext Iff.rfl
def loopI (R : Env → Hp → Prop) (Q : Exit → Env → Hp → Prop) : Exit → Env → Hp → Prop
  | .normal, e, S => R e S
  | x, e, S => Q x e S
theorem MR {R : Env → Hp → Prop} : loopI R F .normal e S = R e S := propext Iff.rfl
theorem MS {R : Env → Hp → Prop} : loopI R F (.exit id) e S = F (.exit id) e S := propext Iff.rfl
theorem MT {R : Env → Hp → Prop} : loopI R F .ret e S = F .ret e S := propext Iff.rfl
/-- A loop: what holds ahead of each turn, of a state x; and how much is left. -/
theorem loop_i {σ : Type} (I : σ → Env → Hp → Prop) (μ : σ → Nat) (x0 : σ) (h0 : I x0 e S) (h : ∀ x e S, I x e S → sC P N c e S (loopI (fun e' S' => ∃ y, μ y < μ x ∧ I y e' S') F)) : sC P N (.loop c) e S F := by
  refine ⟨fun n e S => ∃ x, μ x = n ∧ I x e S, μ x0, ⟨x0, rfl, h0⟩, ?_⟩
  rintro n e S ⟨x, rfl, hx⟩
  have := h x e S hx
  have e1 : (loopI (fun e' S' => ∃ y, μ y < μ x ∧ I y e' S') F) = loopK (fun n e S => ∃ x, μ x = n ∧ I x e S) (μ x) F := by
    funext x1 e1 S1
    cases x1 <;> simp only [loopI, loopK]
    apply propext
    constructor
    · rintro ⟨y, h1, h2⟩; exact ⟨_, h1, y, rfl, h2⟩
    · rintro ⟨m, h1, y, rfl, h2⟩; exact ⟨y, h1, h2⟩
  rw [← e1]
  exact this
theorem seq_cut (mid : Env → Hp → Prop) (ha : ∀ K : Env → Hp → Prop, (∀ e S, mid e S → K e S) → sC P N a e S (seqK K F)) (hb : ∀ e S, mid e S → sC P N b e S F) : sC P N (.seq a b) e S F := ha _ hb
theorem kont_cut (mid : Env → Hp → Prop) (h : mid e S) (hb : ∀ e S, mid e S → sC P N b e S F) : kont P N b F e S := hb _ _ h
end

/-! forms that compute -/
section
variable {K : Value → Prop} {S : Hp}
def ex2 (o : Option Value) (K : Value → Prop) : Prop := match o with | some v => K v | none => False
def ld2 (c : CK) (o : Option Value) (K : Value → Prop) : Prop :=
  match c, o with
  | .int k, some (.int k' n) => k = k' ∧ K (.int k' n)
  | .bool, some (.bool b) => K (.bool b)
  | .str, some (.string s) => K (.string s)
  | .ptr, some (.pointer a) => K (.pointer a)
  | .slice, some (.slice a n c) => K (.slice a n c)
  | .map, some (.map r) => K (.map r)
  | .func, some (.func f x y) => K (.func f x y)
  | .any, some v => K v
  | _, _ => False
theorem IZ {op : BinOp} {k k' : IntKind} {m n : Int} : binC op (.int k m) (.int k' n) K = (k = k' ∧ arith op k m n K) := propext Iff.rfl
theorem JA {k k' : IntKind} {m n : Int} : shC .shl (.int k m) (.int k' n) K = (0 ≤ n ∧ K (.int k (k.wrap (m * 2 ^ (min n.toNat k.bits))))) := propext Iff.rfl
theorem JB {k k' : IntKind} {m n : Int} : shC .shr (.int k m) (.int k' n) K = (0 ≤ n ∧ K (.int k (m.fdiv (2 ^ (min n.toNat k.bits))))) := propext Iff.rfl
theorem JC {a b : ByteArray} : sopC .add (.string a) (.string b) K = (a.size + b.size ≤ 9223372036854775807 ∧ K (.string (a ++ b))) := propext Iff.rfl
theorem JD {a b : ByteArray} : sopC .eql (.string a) (.string b) K = K (.bool (strEq a b)) := propext Iff.rfl
theorem JE {a b : ByteArray} : sopC .neq (.string a) (.string b) K = K (.bool (!strEq a b)) := propext Iff.rfl
theorem JF {a b : ByteArray} : sopC .lss (.string a) (.string b) K = K (.bool (strLt a b)) := propext Iff.rfl
theorem JG {a b : ByteArray} : sopC .leq (.string a) (.string b) K = K (.bool (strLt a b || strEq a b)) := propext Iff.rfl
theorem JH {a b : ByteArray} : sopC .gtr (.string a) (.string b) K = K (.bool (!(strLt a b || strEq a b))) := propext Iff.rfl
theorem JI {a b : ByteArray} : sopC .geq (.string a) (.string b) K = K (.bool (!strLt a b)) := propext Iff.rfl
theorem JJ {neg a b : Bool} : beqC neg (.bool a) (.bool b) K = K (.bool (negB neg (a == b))) := propext Iff.rfl
theorem JK {b : Bool} : negB true b = !b := of_eq_true (eq_self _)
theorem JL {b : Bool} : negB false b = b := of_eq_true (eq_self _)
theorem JM {neg : Bool} {b : Option Addr} : nileqC .ptr neg (.pointer none) (.pointer b) K = K (.bool (negB neg b.isNone)) := propext Iff.rfl
theorem JN {neg : Bool} {a : Addr} : nileqC .ptr neg (.pointer (some a)) (.pointer none) K = K (.bool (negB neg false)) := propext Iff.rfl
theorem JO {neg : Bool} {b : Option Addr} {m n i j : Nat} : nileqC .slice neg (.slice none m n) (.slice b i j) K = K (.bool (negB neg b.isNone)) := propext Iff.rfl
theorem JP {neg : Bool} {b : Addr} {m n i j : Nat} : nileqC .slice neg (.slice (some b) m n) (.slice none i j) K = K (.bool (negB neg false)) := propext Iff.rfl
theorem JQ {neg : Bool} {b : Option Nat} : nileqC .map neg (.map none) (.map b) K = K (.bool (negB neg b.isNone)) := propext Iff.rfl
theorem JR {neg : Bool} {b : Nat} : nileqC .map neg (.map (some b)) (.map none) K = K (.bool (negB neg false)) := propext Iff.rfl
theorem JS {k : IntKind} {n : Int} : negC (.int k n) K = K (.int k (k.wrap (0 - n))) := propext Iff.rfl
theorem JT {b : Bool} : notC (.bool b) K = K (.bool (!b)) := propext Iff.rfl
theorem JU {k k' : IntKind} {n : Int} : cvtC k (.int k' n) K = K (.int k (k.wrap n)) := propext Iff.rfl
theorem JV {k : IntKind} {n : Int} : runeC (.int k n) K = K (.string (Utf8.encode n)) := propext Iff.rfl
theorem JW {vs : Array Value} {i : Nat} : extC (.tuple vs) i K = ex2 vs[i]? K := propext Iff.rfl
theorem JX {v : Value} : ex2 (some v) K = K v := propext Iff.rfl
theorem JY {cs : Array Value} {off n : Nat} : fldC off n false (.agg cs) K = ex2 cs[off]? K := propext Iff.rfl
theorem JZ {cs : Array Value} {off n : Nat} : fldC off n true (.agg cs) K = K (.agg (cs.extract off (off + n))) := propext Iff.rfl
theorem KA {s : ByteArray} {k : IntKind} {j : Int} : idxC (.string s) (.int k j) K = (0 ≤ j ∧ j < s.size ∧ K (.int .u8 (bt s j))) := propext Iff.rfl
theorem KC {s : ByteArray} {lo hi : Option Value} : slstrC (.string s) lo hi K = boundC hi s.size fun h => boundC lo 0 fun l => 0 ≤ h ∧ h ≤ s.size ∧ 0 ≤ l ∧ l ≤ h ∧ K (.string (s.extract l.toNat h.toNat)) := propext Iff.rfl
theorem KD {d : Nat} {K : Int → Prop} : boundC none d K = K d := propext Iff.rfl
theorem KE {d : Nat} {k : IntKind} {n : Int} {K : Int → Prop} : boundC (some (.int k n)) d K = K n := propext Iff.rfl
theorem KF {size : Nat} {a : Option Addr} {len cap : Nat} {lo hi mx : Option Value} : slslC size (.slice a len cap) lo hi mx K = ((hi = none → mx = none) ∧ boundC mx cap fun m => boundC hi len fun h => boundC lo 0 fun l =>
      0 ≤ m ∧ m ≤ cap ∧ 0 ≤ h ∧ h ≤ m ∧ 0 ≤ l ∧ l ≤ h ∧ K (.slice (if m.toNat = l.toNat then a else a.map (·.add (l.toNat * size))) (h.toNat - l.toNat) (m.toNat - l.toNat))) := rfl
theorem KG {off : Nat} {a : Addr} : faC off (.pointer (some a)) K = K (.pointer (some (a.add off))) := propext Iff.rfl
theorem KH {size : Nat} {a : Addr} {len c : Nat} {k : IntKind} {j : Int} : iaC size (.slice (some a) len c) (.int k j) K = (0 ≤ j ∧ j < len ∧ K (.pointer (some (a.add (j.toNat * size))))) := propext Iff.rfl
theorem KI {a : Addr} : nilC (.pointer (some a)) K = K (.pointer (some a)) := propext Iff.rfl
theorem KJ {f : FuncId} {a b : Array Value} : nilC (.func (.func f) a b) K = K (.func (.func f) a b) := propext Iff.rfl
theorem HC {l : Nat} {a b : Array Value} : nilC (.func (.yield l) a b) K = K (.func (.yield l) a b) := propext Iff.rfl
theorem nilC_callable {y : Value} (h : Callable y) : nilC y K = K y := by rcases h with ⟨_, _, _, rfl⟩ | ⟨_, rfl⟩ <;> exact propext Iff.rfl
theorem HB {k k' : IntKind} {m n : Int} : minC (.int k m) (.int k' n) K = K (.int k (if n < m then n else m)) := propext Iff.rfl
theorem KK {s : ByteArray} : lenC true (.string s) K = K (.int .i64 s.size) := propext Iff.rfl
theorem KL {a : Option Addr} {n c : Nat} : lenC false (.slice a n c) K = K (.int .i64 n) := propext Iff.rfl
theorem KM {a : Option Addr} {n c : Nat} : capC (.slice a n c) K = K (.int .i64 c) := propext Iff.rfl
theorem KN {k k' : IntKind} {m n : Int} : maxC (.int k m) (.int k' n) K = K (.int k (if n > m then n else m)) := propext Iff.rfl
theorem KT {k k' : IntKind} {n : Int} : ld2 (.int k) (some (.int k' n)) K = (k = k' ∧ K (.int k' n)) := propext Iff.rfl
theorem KU {b : Bool} : ld2 .bool (some (.bool b)) K = K (.bool b) := propext Iff.rfl
theorem KV {b : ByteArray} : ld2 .str (some (.string b)) K = K (.string b) := propext Iff.rfl
theorem KW {b : Option Addr} : ld2 .ptr (some (.pointer b)) K = K (.pointer b) := propext Iff.rfl
theorem KX {b : Option Addr} {n c : Nat} : ld2 .slice (some (.slice b n c)) K = K (.slice b n c) := propext Iff.rfl
theorem KY {b : Option Nat} : ld2 .map (some (.map b)) K = K (.map b) := propext Iff.rfl
theorem KZ {f : Fn} {x y : Array Value} : ld2 .func (some (.func f x y)) K = K (.func f x y) := propext Iff.rfl
theorem LA {v : Value} : ld2 .any (some v) K = K v := propext Iff.rfl
theorem LO {b : Bool} {A B : Prop} : condC (.bool b) A B = ((b = true → A) ∧ (b = false → B)) := propext Iff.rfl
theorem ld2_eq {c : CK} {o : Option Value} : (typd c fun v => o = some v ∧ K v) = ld2 c o K := by
  apply propext
  unfold typd ld2
  constructor
  · intro h
    cases c <;> simp only at h
    case int k => obtain ⟨n, rfl, h⟩ := h; exact ⟨rfl, h⟩
    case bool => obtain ⟨n, rfl, h⟩ := h; exact h
    case str => obtain ⟨n, rfl, h⟩ := h; exact h
    case ptr => obtain ⟨n, rfl, h⟩ := h; exact h
    case slice => obtain ⟨a, n, c, rfl, h⟩ := h; exact h
    case map => obtain ⟨n, rfl, h⟩ := h; exact h
    case func => obtain ⟨f, x, y, rfl, h⟩ := h; exact h
    case any => obtain ⟨n, rfl, h⟩ := h; exact h
  · intro h
    split at h
    · obtain ⟨rfl, h⟩ := h; exact ⟨_, rfl, h⟩
    · exact ⟨_, rfl, h⟩
    · exact ⟨_, rfl, h⟩
    · exact ⟨_, rfl, h⟩
    · exact ⟨_, _, _, rfl, h⟩
    · exact ⟨_, rfl, h⟩
    · exact ⟨_, _, _, rfl, h⟩
    · exact ⟨_, rfl, h⟩
    · exact h.elim
theorem KO {c : CK} {a : Addr} {K : Value → (Hp → Prop) → Prop} : ldC c (.pointer (some a)) S K = ld2 c (S.cell? a) fun v => K v (fun S' => S'.cell? a = some v) := by unfold ldC; exact ld2_eq (K := fun v => K v (fun S' => S'.cell? a = some v))
theorem KP {cs : List CK} {a : Addr} {K : Value → (Hp → Prop) → Prop} : ldaC cs (.pointer (some a)) S K = loadsC S a 0 cs fun vs => K (.agg vs.toArray) (fun S' => CellsAt S' a 0 vs) := propext Iff.rfl
theorem KQ {a : Addr} {i : Nat} {K : List Value → Prop} : loadsC S a i [] K = K [] := propext Iff.rfl
theorem KR {a : Addr} {i : Nat} {c : CK} {cs : List CK} {K : List Value → Prop} : loadsC S a i (c :: cs) K = ld2 c (S.cell? (a.add i)) fun v => loadsC S a (i + 1) cs fun vs => K (v :: vs) := by rw [loadsC]; exact ld2_eq
def st2 (o : Option Obj) (off n : Nat) (K : Obj → Prop) : Prop :=
  match o with
  | some o => okPut o off n ∧ K o
  | none => False
theorem AG {c : CK} {a : Addr} : rsc c (.pointer (some a)) S K = ld2 c (S.cell? a) K := by unfold rsc; exact ld2_eq
theorem AH {cs : List CK} {a : Addr} : rsca cs (.pointer (some a)) S K = loadsC S a 0 cs fun l => K (.agg l.toArray) := propext Iff.rfl
theorem LP {k : IntKind} {n : Int} : (Value.int k n).cells = #[.int k n] := of_eq_true (eq_self _)
theorem LQ {b : Bool} : (Value.bool b).cells = #[.bool b] := of_eq_true (eq_self _)
theorem LR {b : ByteArray} : (Value.string b).cells = #[.string b] := of_eq_true (eq_self _)
theorem LS {b : Option Addr} : (Value.pointer b).cells = #[.pointer b] := of_eq_true (eq_self _)
theorem ZY {b : Option Addr} {n c : Nat} : (Value.slice b n c).cells = #[.slice b n c] := of_eq_true (eq_self _)
theorem LU {b : Option Nat} : (Value.map b).cells = #[.map b] := of_eq_true (eq_self _)
theorem LV {b : Array Value} : (Value.agg b).cells = b := of_eq_true (eq_self _)
theorem MD {k : IntKind} {n : Int} : vplain (.int k n) = true := of_eq_true (eq_self _)
theorem ME {b : Bool} : vplain (.bool b) = true := of_eq_true (eq_self _)
theorem MF {b : ByteArray} : vplain (.string b) = true := of_eq_true (eq_self _)
theorem MG {b : Option Addr} : vplain (.pointer b) = true := of_eq_true (eq_self _)
theorem MH {b : Option Addr} {n c : Nat} : vplain (.slice b n c) = true := of_eq_true (eq_self _)
theorem MI {b : Option Nat} : vplain (.map b) = true := of_eq_true (eq_self _)
theorem MJ {l : List Value} {f : Value → Bool} : l.toArray.all f = l.all f := by simp
def plains (v : Value) : Bool := v.cells.toList.all vplain
theorem LW {k : IntKind} {n : Int} : plains (.int k n) = true := of_eq_true (eq_self _)
theorem LX {b : Bool} : plains (.bool b) = true := of_eq_true (eq_self _)
theorem LY {b : ByteArray} : plains (.string b) = true := of_eq_true (eq_self _)
theorem LZ {b : Option Addr} : plains (.pointer b) = true := of_eq_true (eq_self _)
theorem MA {b : Option Addr} {n c : Nat} : plains (.slice b n c) = true := of_eq_true (eq_self _)
theorem MB {b : Option Nat} : plains (.map b) = true := of_eq_true (eq_self _)
theorem MC {l : List Value} : plains (.agg l.toArray) = l.all vplain := by simp [plains, Value.cells]
theorem LB {n b off : Nat} {v : Value} {K : Value → Hp → Prop} : stC n (.pointer (some ⟨b, off, none⟩)) v S K = (v.cells.size = n ∧ plains v = true ∧ st2 (S b) off n fun o => K undef (S.set b (oputs o off v.cells.toList))) := by
  unfold stC st2
  apply propext
  refine and_congr Iff.rfl (and_congr (by unfold plains; rw [Array.all_toList]) ?_)
  constructor
  · rintro ⟨o, h, h1, h2⟩; rw [h]; exact ⟨h1, h2⟩
  · intro h
    split at h
    · rename_i o ho; exact ⟨o, ho, h.1, h.2⟩
    · exact h.elim
theorem LC {o : Obj} {off n : Nat} {K : Obj → Prop} : st2 (some o) off n K = (okPut o off n ∧ K o) := propext Iff.rfl
theorem LD {c : Array Value} {e : TypeId} {lo hi off n : Nat} : okPut (.cells c e (lo, hi)) off n = (off + n ≤ c.size ∧ (hi ≤ off ∨ off + n ≤ lo)) := by
  unfold okPut
  apply propext
  constructor
  · rintro ⟨_, _, _, _, h, h1⟩; cases h; exact h1
  · intro h; exact ⟨_, _, _, _, rfl, h⟩
theorem ZZ {c : Array Value} {e : TypeId} {f : Nat × Nat} {off : Nat} {vs : List Value} : oputs (.cells c e f) off vs = .cells (putAt c.toList off vs).toArray e f := of_eq_true (eq_self _)
theorem LF {c : List Value} {off : Nat} : putAt c off [] = c := of_eq_true (eq_self _)
theorem LG {c : List Value} {off : Nat} {v : Value} {vs : List Value} : putAt c off (v :: vs) = putAt (c.set off v) (off + 1) vs := of_eq_true (eq_self _)
theorem LH {n : Nat} {o : Obj} : (S.set n o) n = some o := if_pos rfl
theorem LI {n : Nat} {o o' : Obj} : (S.set n o).set n o' = S.set n o' := by funext m; unfold Hp.set; split <;> rfl
theorem set_comm {n m : Nat} {o o' : Obj} (h : n ≠ m) : (S.set n o).set m o' = (S.set m o').set n o := by
  funext k; unfold Hp.set
  by_cases h1 : k = m
  · subst h1; rw [if_pos rfl, if_neg (fun e => h e.symm)]; simp
  · rw [if_neg h1]; split <;> simp [h1]
theorem set_self {n : Nat} {o : Obj} (h : S n = some o) : S.set n o = S := by
  funext m; unfold Hp.set; split
  · rename_i e; subst e; exact h.symm
  · rfl
theorem LM {n off : Nat} {c : Array Value} {e : TypeId} {f : Nat × Nat} : (S.set n (.cells c e f)).cell? ⟨n, off, none⟩ = c[off]? := by
  unfold Hp.cell?
  rw [LH]
  rfl
theorem cell_of {n off : Nat} {c : Array Value} {e : TypeId} {f : Nat × Nat} (h : S n = some (.cells c e f)) : S.cell? ⟨n, off, none⟩ = c[off]? := by
  unfold Hp.cell?
  rw [h]
  rfl
theorem LN {b o k : Nat} : (⟨b, o, none⟩ : Addr).add k = ⟨b, o + k, none⟩ := by unfold Addr.add; split <;> simp_all
theorem w64 {x : Int} (h : -9223372036854775808 ≤ x) (h' : x < 9223372036854775808) : IntKind.i64.wrap x = x := by rw [IntKind.wrap_i64]; omega
end
theorem IX {e : Env} {d : Nat} {v : Value} : upd e d v d = v := if_pos rfl
theorem IY {e : Env} {d t : Nat} {v : Value} (h : t ≠ d) : upd e d v t = e t := if_neg h
theorem upd_c {e : Env} {d t : Nat} {v : Value} : upd e d v t = upd e d v t := rfl
/-! simp goes into what is looked at, not into what comes behind -/
section
variable {K : Value → Prop} {x x' y y' : Value}
theorem binC_c {op : BinOp} (h : x = x') (k : y = y') : binC op x y K = binC op x' y' K := by rw [h, k]
theorem sopC_c {op : BinOp} (h : x = x') (k : y = y') : sopC op x y K = sopC op x' y' K := by rw [h, k]
theorem shC_c {op : BinOp} (h : x = x') (k : y = y') : shC op x y K = shC op x' y' K := by rw [h, k]
theorem beqC_c {op : Bool} (h : x = x') (k : y = y') : beqC op x y K = beqC op x' y' K := by rw [h, k]
theorem nileqC_c {c : CK} {op : Bool} (h : x = x') (k : y = y') : nileqC c op x y K = nileqC c op x' y' K := by rw [h, k]
theorem lenC_c {b : Bool} (h : x = x') : lenC b x K = lenC b x' K := by rw [h]
theorem capC_c (h : x = x') : capC x K = capC x' K := by rw [h]
theorem negC_c (h : x = x') : negC x K = negC x' K := by rw [h]
theorem notC_c (h : x = x') : notC x K = notC x' K := by rw [h]
theorem cvtC_c {k : IntKind} (h : x = x') : cvtC k x K = cvtC k x' K := by rw [h]
theorem runeC_c (h : x = x') : runeC x K = runeC x' K := by rw [h]
theorem extC_c {i : Nat} (h : x = x') : extC x i K = extC x' i K := by rw [h]
theorem fldC_c {o n : Nat} {b : Bool} (h : x = x') : fldC o n b x K = fldC o n b x' K := by rw [h]
theorem maxC_c (h : x = x') (k : y = y') : maxC x y K = maxC x' y' K := by rw [h, k]
theorem minC_c (h : x = x') (k : y = y') : minC x y K = minC x' y' K := by rw [h, k]
theorem eqsC_c {b : Bool} {cs : List CK} (h : x = x') (k : y = y') : eqsC b cs x y K = eqsC b cs x' y' K := by rw [h, k]
theorem idxaC_c {m n : Nat} {b : Bool} (h : x = x') (k : y = y') : idxaC m n b x y K = idxaC m n b x' y' K := by rw [h, k]
theorem iapC_c {m n : Nat} (h : x = x') (k : y = y') : iapC m n x y K = iapC m n x' y' K := by rw [h, k]
theorem slarrC_c {m n : Nat} {a b a' b' : Option Value} (h : x = x') (k : a = a') (j : b = b') : slarrC m n x a b K = slarrC m n x' a' b' K := by rw [h, k, j]
theorem lkC_c {b o : Bool} {z : Value} {S S' : Hp} {K : Value → (Hp → Prop) → Prop} (h : x = x') (k : y = y') (j : S = S') : lkC b z o x y S K = lkC b z o x' y' S' K := by rw [h, k, j]
theorem mkslC_c {t : TypeId} {b : Nat} {z : List Value} {S S' : Hp} {K : Value → Hp → Prop} (h : x = x') (k : y = y') (j : S = S') : mkslC t b z x y S K = mkslC t b z x' y' S' K := by rw [h, k, j]
theorem copyC_c {n : Nat} {S S' : Hp} {K : Value → Hp → Prop} (h : x = x') (k : y = y') (j : S = S') : copyC n x y S K = copyC n x' y' S' K := by rw [h, k, j]
theorem msetC_c {b : Bool} {z z' : Value} {S S' : Hp} {K : Value → Hp → Prop} (h : x = x') (k : y = y') (m : z = z') (j : S = S') : msetC b x y z S K = msetC b x' y' z' S' K := by rw [h, k, j, m]
theorem callvC_c {P : Program} {a a' : List Value} {rk : RK} {S S' : Hp} {K : Value → Hp → Prop} (h : x = x') (k : a = a') (j : S = S') : callvC P x a rk S K = callvC P x' a' rk S' K := by rw [h, k, j]
theorem xcallC_c {P : Program} {f : FuncId} {a a' : List Value} {rk : RK} {S S' : Hp} {K : Value → Hp → Prop} (h : a = a') (k : S = S') : xcallC P f a rk S K = xcallC P f a' rk S' K := by rw [h, k]
theorem appzC_c {a b c : Nat} {z : List Value} {S S' : Hp} {K : Value → Hp → Prop} (h : x = x') (k : y = y') (j : S = S') : appzC a b c z x y S K = appzC a b c z x' y' S' K := by rw [h, k, j]
theorem lzK_c2 {c : Bool} {W : (Value → Prop) → Prop} {K : Value → Prop} : lzK c W K = lzK c W K := rfl
theorem pickC_c {z z' : Value} (h : x = x') (k : y = y') (j : z = z') : pickC x y z K = pickC x' y' z' K := by rw [h, k, j]
theorem idxC_c (h : x = x') (k : y = y') : idxC x y K = idxC x' y' K := by rw [h, k]
theorem slstrC_c {a b a' b' : Option Value} (h : x = x') (k : a = a') (j : b = b') : slstrC x a b K = slstrC x' a' b' K := by rw [h, k, j]
theorem slslC_c {n : Nat} {a b c a' b' c' : Option Value} (h : x = x') (k : a = a') (j : b = b') (l : c = c') : slslC n x a b c K = slslC n x' a' b' c' K := by rw [h, k, j, l]
theorem faC_c {n : Nat} (h : x = x') : faC n x K = faC n x' K := by rw [h]
theorem iaC_c {n : Nat} (h : x = x') (k : y = y') : iaC n x y K = iaC n x' y' K := by rw [h, k]
theorem nilC_c (h : x = x') : nilC x K = nilC x' K := by rw [h]
theorem splC_c {b : Bool} (h : x = x') : splC b x K = splC b x' K := by rw [h]
theorem gd2_c {b b' : Bool} {A B : Prop} (h : b = b') : gd2 b A B = gd2 b' A B := by rw [h]
theorem IK {b : Bool} {A B : Prop} : gd2 b A B = ((b = true → A) ∧ (b = false → B)) := propext Iff.rfl
theorem IL {A B : Prop} : gd2 true A B = A := by simp [gd2]
theorem IM {A B : Prop} : gd2 false A B = B := by simp [gd2]
theorem condC_c {A B : Prop} (h : x = x') : condC x A B = condC x' A B := by rw [h]
theorem rsc_c {c : CK} {S : Hp} (h : x = x') : rsc c x S K = rsc c x' S K := by rw [h]
theorem rsca_c {c : List CK} {S : Hp} (h : x = x') : rsca c x S K = rsca c x' S K := by rw [h]
theorem ldC_c {c : CK} {S : Hp} {K : Value → (Hp → Prop) → Prop} (h : x = x') : ldC c x S K = ldC c x' S K := by rw [h]
theorem ldaC_c {c : List CK} {S : Hp} {K : Value → (Hp → Prop) → Prop} (h : x = x') : ldaC c x S K = ldaC c x' S K := by rw [h]
theorem ldbC_c {S : Hp} {K : Value → (Hp → Prop) → Prop} (h : x = x') : ldbC x S K = ldbC x' S K := by rw [h]
theorem ex2_c {o o' : Option Value} (h : o = o') : ex2 o K = ex2 o' K := by rw [h]
theorem ld2_c {c : CK} {o o' : Option Value} (h : o = o') : ld2 c o K = ld2 c o' K := by rw [h]
theorem loadsC_c {S : Hp} {a : Addr} {i : Nat} {cs : List CK} {K : List Value → Prop} : loadsC S a i cs K = loadsC S a i cs K := propext Iff.rfl
theorem st2_c {o o' : Option Obj} {i n : Nat} {K : Obj → Prop} (h : o = o') : st2 o i n K = st2 o' i n K := by rw [h]
theorem stC_c {n : Nat} {S S' : Hp} {K : Value → Hp → Prop} (h : x = x') (k : y = y') (j : S = S') : stC n x y S K = stC n x' y' S' K := by rw [h, k, j]
theorem callC_c {P : Program} {f : FuncId} {a a' : List Value} {rk : RK} {S S' : Hp} {K : Value → Hp → Prop} (h : a = a') (k : S = S') : callC P f a rk S K = callC P f a' rk S' K := by rw [h, k]
theorem appC_c {a b c : Nat} {z : List Value} {S S' : Hp} {K : Value → Hp → Prop} (h : x = x') (k : y = y') (j : S = S') : appC a b c z x y S K = appC a b c z x' y' S' K := by rw [h, k, j]
theorem sC_c {P : Program} {N : Nat} {b : SC} {F : Exit → Env → Hp → Prop} {e : Env} {S S' : Hp} (h : S = S') : sC P N b e S F = sC P N b e S' F := by rw [h]
theorem regC_c {P : Program} {N : Nat} {M : Option (List (List Nat))} {Q : Env → Hp → Prop} {l l' : List SI} {e : Env} {S S' : Hp} {G : GL} (k : l = l') (h : S = S') : regC P N M Q l e S G = regC P N M Q l' e S' G := by rw [h, k]
theorem kont_c {P : Program} {N : Nat} {b : SC} {F : Exit → Env → Hp → Prop} {e : Env} {S S' : Hp} (h : S = S') : kont P N b F e S = kont P N b F e S' := by rw [h]
end
theorem set_none {S : Hp} {p n : Nat} {o : Obj} (h : (S.set p o) n = none) : n ≠ p ∧ S n = none := by
  unfold Hp.set at h
  split at h
  · cases h
  · rename_i hne; exact ⟨hne, h⟩
theorem newC_eq {S : Hp} {o : Obj} {K : Nat → Hp → Prop} (h : ∀ n, S n = none → K n (S.set n o)) : newC S o K := h
theorem newC_set {T : Hp} {p : Nat} {q o : Obj} {K : Nat → Hp → Prop} (h : ∀ n, n ≠ p → T n = none → K n ((T.set n o).set p q)) : newC (T.set p q) o K := fun n hn => by
  obtain ⟨h1, h2⟩ := set_none hn
  have := h n h1 h2
  rw [set_comm h1] at this
  exact this
theorem LJ {S : Hp} {n m : Nat} {o : Obj} (h : n ≠ m) : (S.set m o) n = S n := if_neg h
theorem LL {S : Hp} {n m k : Nat} {o : Obj} (h : n ≠ m) : (S.set m o).cell? ⟨n, k, none⟩ = S.cell? ⟨n, k, none⟩ := by
  unfold Hp.cell?; rw [LJ h]
theorem LK {T : Hp} {n p : Nat} {r r' o : Obj} (h : n ≠ p) : ((T.set n r).set p o).set n r' = (T.set n r').set p o := by
  rw [set_comm (fun e => h e.symm), LI]
/-! calls -/
theorem call_use {P : Program} {f : FuncId} {a : List Value} {rk : RK} {S : Hp} {K : Value → Hp → Prop} {Q : Value → Hp → Prop} (h : callWp P f a.toArray S Q) (hk : ∀ v S', Q v S' → typR rk fun u => v = u ∧ K u S') : callC P f a rk S K := callWp_mono h hk
/-- A call that hands back v0, and leaves S2. -/
theorem call_det {P : Program} {f : FuncId} {a : List Value} {rk : RK} {S S2 : Hp} {v0 : Value} {K : Value → Hp → Prop} (h : callWp P f a.toArray S fun v S' => v = v0 ∧ S' = S2) (ht : ∀ K : Value → Prop, K v0 → typR rk K) (hk : K v0 S2) : callC P f a rk S K :=
  call_use h fun v S' ⟨e1, e2⟩ => by subst e1 e2; exact ht _ ⟨rfl, hk⟩
theorem ty_int {k : IntKind} {n : Int} : ∀ K : Value → Prop, K (.int k n) → typR (.one (.int k)) K := fun K h => by rw [typR]; exact ⟨n, h⟩
theorem ty_bool {b : Bool} : ∀ K : Value → Prop, K (.bool b) → typR (.one .bool) K := fun K h => by rw [typR]; exact ⟨b, h⟩
theorem ty_str {s : ByteArray} : ∀ K : Value → Prop, K (.string s) → typR (.one .str) K := fun K h => by rw [typR]; exact ⟨s, h⟩
theorem ty_unit : ∀ K : Value → Prop, K (.tuple #[]) → typR .unit K := fun K h => by rw [typR]; exact h
/-! calls of function values, beside other blocks -/
theorem callVal_beside {P : Program} {g : Value} {args : List Value} {S : Hp} {Q : Value → Hp → Prop} {n : Nat} (hn : S n = none) (o : Obj) (h : callVal P g args S Q) : callVal P g args (S.set n o) (fun v T => ∃ S', S' n = none ∧ T = S'.set n o ∧ Q v S') := by
  unfold callVal at *
  split at h
  · exact ⟨h.1, callWp_beside hn o h.2⟩
  · obtain ⟨h1, h2, r, hl, hs, h⟩ := h
    exact ⟨h1, h2, r, by rw [LJ (fun e => by subst e; rw [hn] at hl; cases hl)]; exact hl, hs, roundWp_beside hn o h⟩
  · exact h.elim
theorem callv_use {P : Program} {g : Value} {a : List Value} {rk : RK} {S : Hp} {K : Value → Hp → Prop} {Q : Value → Hp → Prop} (h : callVal P g a S Q) (hk : ∀ v S', Q v S' → typR rk fun u => v = u ∧ K u S') : callvC P g a rk S K := callVal_mono h hk
theorem xcall_use {P : Program} {f : FuncId} {args : List Value} {rk : RK} {S : Hp} {K : Value → Hp → Prop} {fn : Func} {e : Array Value → Sem Value} (hf : P.funcs[f]? = some fn) (hb : fn.body = none) (hn : (fn.name == "runtime.NumGoroutine") = false) (h1 : Extern.findNext fn = none) (h2 : Extern.find fn = some e)
    (h : wpH P (e args.toArray) S fun v S' => typR rk fun u => v = u ∧ K u S') : xcallC P f args rk S K := ⟨fn, e, hf, hb, hn, h1, h2, h⟩
theorem ty_ptr {a : Option Addr} : ∀ K : Value → Prop, K (.pointer a) → typR (.one .ptr) K := fun K h => by rw [typR]; exact ⟨a, h⟩
theorem ty_slice {a : Option Addr} {n c : Nat} : ∀ K : Value → Prop, K (.slice a n c) → typR (.one .slice) K := fun K h => by rw [typR]; exact ⟨a, n, c, h⟩
theorem ty_map {a : Option Nat} : ∀ K : Value → Prop, K (.map a) → typR (.one .map) K := fun K h => by rw [typR]; exact ⟨a, h⟩
theorem ty_func {f : Fn} {a b : Array Value} : ∀ K : Value → Prop, K (.func f a b) → typR (.one .func) K := fun K h => by rw [typR]; exact ⟨f, a, b, h⟩
theorem sC_range {P : Program} {N : Nat} {f : Operand} {ps : List Nat} {a b : SC} {e : Env} {S : Hp} {Q : Exit → Env → Hp → Prop} : sC P N (.range f ps a b) e S Q = ∃ (A : Nat → List Value → Prop) (Done : Nat → Prop) (R : Hp → Prop) (St : Hp → Hp → Prop) (I : Nat → Hp → Prop) (J : Exit → Hp → Prop) (T0 : Hp),
      isFn (ev e f) ∧ IterSpec P (ev e f) A Done R St ∧ StOk St ∧ (∀ S S', Hp.le S S' → R S → R S') ∧ (∀ k args, A k args → args.length = ps.length) ∧ (∀ p, p ∈ ps → p < N) ∧ St T0 S ∧ I 0 T0 ∧ (∀ k S, I k S → R S) ∧
      (∀ k args S, A k args → I k S → sC P N a (updL e (ps.zip args)) S (rndK (kont P N b (endK (I (k + 1)) J)))) ∧
      (∀ k S, Done k → I k S → Q .normal e S) ∧ (∀ S, J .ret S → Q .ret e S) ∧ (∀ j S, J (.exit j) S → Q (.exit j) e S) := propext Iff.rfl
theorem GT {next : Env → Hp → Prop} {e : Env} {S : Hp} : rndK next .normal e S = next e S := propext Iff.rfl
theorem GU {I : Hp → Prop} {J : Exit → Hp → Prop} {e : Env} {S : Hp} : endK I J .normal e S = I S := propext Iff.rfl
theorem GV {I : Hp → Prop} {J : Exit → Hp → Prop} {e : Env} {S : Hp} : endK I J .ret e S = J .ret S := propext Iff.rfl
theorem GW {I : Hp → Prop} {J : Exit → Hp → Prop} {e : Env} {S : Hp} {j : Nat} : endK I J (.exit j) e S = J (.exit j) S := propext Iff.rfl
theorem GX {e : Env} : updL e [] = e := of_eq_true (eq_self _)
theorem GY {e : Env} {p : Nat × Value} {l : List (Nat × Value)} : updL e (p :: l) = updL (upd e p.1 p.2) l := of_eq_true (eq_self _)
end Go.PH
