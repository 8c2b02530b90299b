/- PH: resolved operations: an operation with its types looked up, and what it comes to, in a form that one can compute with. Each resolved form is sound for the operation. -/
import Derived.Test.YtlonednppnmpeaaGreatDoorDraw
set_option linter.all false
namespace Go.PH
open Go

/-- What a cell holds. -/
inductive CK where
  | int (k : IntKind) | bool | str | ptr | slice | map | func | any
  deriving DecidableEq, Repr
/-- What a call hands back. -/
inductive RK where
  | one (c : CK) | agg (cs : List CK) | unit | tup (rs : List RK)

def ckOf (P : Program) (t : TypeId) : CK :=
  match P.underlying t with
  | some (.int k) => .int k
  | some .bool => .bool
  | some .string => .str
  | some (.pointer _) => .ptr
  | some (.slice _) => .slice
  | some (.map _ _) => .map
  | some (.func _ _ _) => .func
  | _ => .any
def cksIn (P : Program) : Nat → TypeId → List CK
  | 0, _ => []
  | d + 1, t =>
    match P.underlying t with
    | some (.struct fs) => fs.toList.flatMap fun f => cksIn P d f.type
    | some (.array n e) => (List.replicate n (cksIn P d e)).flatten
    | _ => [ckOf P t]
/-- The cells of a type: as many as its size. -/
def cksOf (P : Program) (t : TypeId) (size : Nat) : List CK :=
  let l := cksIn P 6 t
  if l.length = size then l else List.replicate size .any

def typd (c : CK) (K : Value → Prop) : Prop :=
  match c with
  | .int k => ∃ n, K (.int k n)
  | .bool => ∃ b, K (.bool b)
  | .str => ∃ s, K (.string s)
  | .ptr => ∃ a, K (.pointer a)
  | .slice => ∃ a n c, K (.slice a n c)
  | .map => ∃ r, K (.map r)
  | .func => ∃ f x y, K (.func f x y)
  | .any => ∃ v, K v
theorem typd_some {c : CK} {K : Value → Prop} (h : typd c K) : ∃ v, K v := by
  unfold typd at h
  cases c <;> simp only at h
  all_goals first
    | (obtain ⟨a, h⟩ := h; exact ⟨_, h⟩)
    | (obtain ⟨a, b, c, h⟩ := h; exact ⟨_, h⟩)
mutual
def typR (r : RK) (K : Value → Prop) : Prop :=
  match r with
  | .one c => typd c K
  | .agg cs => typL cs fun vs => K (.agg vs.toArray)
  | .unit => K (.tuple #[])
  | .tup rs => typRs rs fun vs => K (.tuple vs.toArray)
def typRs (rs : List RK) (K : List Value → Prop) : Prop :=
  match rs with
  | [] => K []
  | r :: rs => typR r fun v => typRs rs fun vs => K (v :: vs)
def typL (cs : List CK) (K : List Value → Prop) : Prop :=
  match cs with
  | [] => K []
  | c :: cs => typd c fun v => typL cs fun vs => K (v :: vs)
end
theorem typL_some {cs : List CK} : ∀ {K : List Value → Prop}, typL cs K → ∃ vs, K vs := by
  induction cs with
  | nil => intro K h; unfold typL at h; exact ⟨_, h⟩
  | cons c cs ih =>
    intro K h
    unfold typL at h
    obtain ⟨v, h⟩ := typd_some h
    obtain ⟨vs, h⟩ := ih h
    exact ⟨_, h⟩
mutual
theorem typR_some : ∀ (r : RK) {K : Value → Prop}, typR r K → ∃ v, K v
  | .one c, K, h => by unfold typR at h; exact typd_some h
  | .agg cs, K, h => by unfold typR at h; obtain ⟨vs, h⟩ := typL_some h; exact ⟨_, h⟩
  | .unit, K, h => by unfold typR at h; exact ⟨_, h⟩
  | .tup rs, K, h => by unfold typR at h; obtain ⟨vs, h⟩ := typRs_some rs h; exact ⟨_, h⟩
theorem typRs_some : ∀ (rs : List RK) {K : List Value → Prop}, typRs rs K → ∃ vs, K vs
  | [], K, h => by unfold typRs at h; exact ⟨_, h⟩
  | r :: rs, K, h => by
    unfold typRs at h
    obtain ⟨v, h⟩ := typR_some r h
    obtain ⟨vs, h⟩ := typRs_some rs h
    exact ⟨_, h⟩
end

inductive RO where
  | mv (x : Operand)
  | pick (c a b : Operand)
  | bin (op : BinOp) (x y : Operand)
  | sh (op : BinOp) (x y : Operand)
  | sop (op : BinOp) (x y : Operand)
  | beq (neg : Bool) (x y : Operand)
  | nileq (c : CK) (neg : Bool) (x y : Operand)
  | neg (x : Operand)
  | notb (x : Operand)
  | cvt (k : IntKind) (x : Operand)
  | runestr (x : Operand)
  | ext (x : Operand) (i : Nat)
  | fld (off size : Nat) (agg : Bool) (x : Operand)
  | build (zero : List Value) (parts : List (Nat × Nat × Operand))
  | idx (x i : Operand)
  | slstr (x : Operand) (lo hi : Option Operand)
  | slsl (size : Nat) (x : Operand) (lo hi mx : Option Operand)
  | fa (off : Nat) (x : Operand)
  | ia (size : Nat) (x i : Operand)
  | nilc (x : Operand)
  | mkif (t : TypeId) (x : Operand)
  | mkfn (fn : Fn) (first cap : List Operand)
  | len (str : Bool) (x : Operand)
  | capp (x : Operand)
  | maxi (x y : Operand)
  | ld (c : CK) (x : Operand)
  | lda (cs : List CK) (x : Operand)
  | ldbytes (x : Operand)
  | alloc (t : TypeId) (zero : List Value)
  | box (t : TypeId) (x : Operand)
  | bslice (t : TypeId) (len : Nat) (zero : List Value) (parts : List (Nat × Nat × Operand))
  | mkmap
  | st (n : Nat) (x v : Operand)
  | call (f : FuncId) (args : List Operand) (rk : RK)
  | callv (g : Operand) (args : List Operand) (rk : RK)
  | app (elem size bytes : Nat) (zero : List Value) (s x : Operand)
  | strb (elem : TypeId) (x : Operand)
  | mini (x y : Operand)
  | eqs (neg : Bool) (cs : List CK) (x y : Operand)
  | idxa (size len : Nat) (agg : Bool) (x i : Operand)
  | iap (size len : Nat) (x i : Operand)
  | slarr (size len : Nat) (x : Operand) (lo hi : Option Operand)
  | lk (str : Bool) (zero : Value) (ok : Bool) (x k : Operand)
  | mksl (t : TypeId) (bytes : Nat) (zero : List Value) (l c : Operand)
  | copy (size : Nat) (d s : Operand)
  | mset (str : Bool) (m k v : Operand)
  | mdel (str : Bool) (m k : Operand)
  | xcall (f : FuncId) (args : List Operand) (rk : RK)
  | appz (elem size bytes : Nat) (zero : List Value) (s x : Operand)
  | bad

def clsR : RO → Nat
  | .ld _ _ | .lda _ _ | .ldbytes _ | .lk _ _ _ _ _ => 1
  | .alloc _ _ | .box _ _ | .bslice _ _ _ _ | .mkmap | .mksl _ _ _ _ _ => 2
  | .st _ _ _ | .call _ _ _ | .callv _ _ _ | .app _ _ _ _ _ _ | .strb _ _ | .copy _ _ _ | .mset _ _ _ _ | .mdel _ _ _ | .xcall _ _ _ | .appz _ _ _ _ _ _ => 3
  | _ => 0

/-! ### the pure ones -/
def bt (s : ByteArray) (i : Int) : Int := if h : i.toNat < s.size then ((s[i.toNat]'h).toNat : Int) else 0
def bitsV (op : BinOp) (k : IntKind) (x y : Int) : Int :=
  k.wrap (match op with
    | .and => BitVec.ofInt k.bits x &&& BitVec.ofInt k.bits y
    | .or => BitVec.ofInt k.bits x ||| BitVec.ofInt k.bits y
    | .xor => BitVec.ofInt k.bits x ^^^ BitVec.ofInt k.bits y
    | _ => BitVec.ofInt k.bits x &&& ~~~(BitVec.ofInt k.bits y)).toNat
def arith (op : BinOp) (k : IntKind) (m n : Int) (K : Value → Prop) : Prop :=
  match op with
  | .add => K (.int k (k.wrap (m + n)))
  | .sub => K (.int k (k.wrap (m - n)))
  | .mul => K (.int k (k.wrap (m * n)))
  | .quo => n ≠ 0 ∧ K (.int k (k.wrap (m.tdiv n)))
  | .rem => n ≠ 0 ∧ K (.int k (m.tmod n))
  | .and => K (.int k (bitsV .and k m n))
  | .or => K (.int k (bitsV .or k m n))
  | .xor => K (.int k (bitsV .xor k m n))
  | .andNot => K (.int k (bitsV .andNot k m n))
  | .eql => K (.bool (m == n))
  | .neq => K (.bool (m != n))
  | .lss => K (.bool (decide (m < n)))
  | .leq => K (.bool (decide (m ≤ n)))
  | .gtr => K (.bool (decide (m > n)))
  | .geq => K (.bool (decide (m ≥ n)))
  | _ => False
def binC (op : BinOp) (x y : Value) (K : Value → Prop) : Prop :=
  match x, y with
  | .int k m, .int k' n => k = k' ∧ arith op k m n K
  | _, _ => False
def shC (op : BinOp) (x y : Value) (K : Value → Prop) : Prop :=
  match x, y with
  | .int k m, .int _ n => 0 ≤ n ∧ (match op with
    | .shl => K (.int k (k.wrap (m * 2 ^ (min n.toNat k.bits))))
    | .shr => K (.int k (m.fdiv (2 ^ (min n.toNat k.bits))))
    | _ => False)
  | _, _ => False
def strLt (x y : ByteArray) : Bool := Op.bytesLess x.toList y.toList
def strEq (x y : ByteArray) : Bool := x.toList == y.toList
def sopC (op : BinOp) (x y : Value) (K : Value → Prop) : Prop :=
  match x, y with
  | .string a, .string b => (match op with
    | .add => a.size + b.size ≤ 9223372036854775807 ∧ K (.string (a ++ b))
    | .eql => K (.bool (strEq a b))
    | .neq => K (.bool (!strEq a b))
    | .lss => K (.bool (strLt a b))
    | .leq => K (.bool (strLt a b || strEq a b))
    | .gtr => K (.bool (!(strLt a b || strEq a b)))
    | .geq => K (.bool (!strLt a b))
    | _ => False)
  | _, _ => False
def pickC (c a b : Value) (K : Value → Prop) : Prop :=
  match c with
  | .bool t => (t = true → K a) ∧ (t = false → K b)
  | _ => False
def negB (neg b : Bool) : Bool := if neg = true then !b else b
def beqC (neg : Bool) (x y : Value) (K : Value → Prop) : Prop :=
  match x, y with
  | .bool a, .bool b => K (.bool (negB neg (a == b)))
  | _, _ => False
def ptreqC (neg : Bool) (x y : Value) (K : Value → Prop) : Prop :=
  match x, y with
  | .pointer none, .pointer b => K (.bool (negB neg b.isNone))
  | .pointer (some _), .pointer none => K (.bool (negB neg false))
  | _, _ => False
def sleqC (neg : Bool) (x y : Value) (K : Value → Prop) : Prop :=
  match x, y with
  | .slice none _ _, .slice b _ _ => K (.bool (negB neg b.isNone))
  | .slice (some _) _ _, .slice none _ _ => K (.bool (negB neg false))
  | _, _ => False
def mapeqC (neg : Bool) (x y : Value) (K : Value → Prop) : Prop :=
  match x, y with
  | .map none, .map b => K (.bool (negB neg b.isNone))
  | .map (some _), .map none => K (.bool (negB neg false))
  | _, _ => False
def nileqC (c : CK) (neg : Bool) (x y : Value) (K : Value → Prop) : Prop :=
  match c with
  | .ptr => ptreqC neg x y K
  | .slice => sleqC neg x y K
  | .map => mapeqC neg x y K
  | _ => False
def negC (x : Value) (K : Value → Prop) : Prop := match x with | .int k n => K (.int k (k.wrap (0 - n))) | _ => False
def notC (x : Value) (K : Value → Prop) : Prop := match x with | .bool b => K (.bool (!b)) | _ => False
def cvtC (k : IntKind) (x : Value) (K : Value → Prop) : Prop := match x with | .int _ n => K (.int k (k.wrap n)) | _ => False
def runeC (x : Value) (K : Value → Prop) : Prop := match x with | .int _ n => K (.string (Utf8.encode n)) | _ => False
def extC (x : Value) (i : Nat) (K : Value → Prop) : Prop := match x with | .tuple vs => (match vs[i]? with | some v => K v | none => False) | _ => False
def fldC (off size : Nat) (agg : Bool) (x : Value) (K : Value → Prop) : Prop :=
  match x with
  | .agg cs => if agg = true then K (.agg (cs.extract off (off + size))) else (match cs[off]? with | some v => K v | none => False)
  | _ => False
def putAt (cells : List Value) (off : Nat) : List Value → List Value
  | [] => cells
  | v :: vs => putAt (cells.set off v) (off + 1) vs
def fillC (zero : List Value) (parts : List (Nat × Nat × Value)) (K : List Value → Prop) : Prop :=
  match parts with
  | [] => K zero
  | (off, size, v) :: r => v.cells.size = size ∧ off + size ≤ zero.length ∧ fillC (putAt zero off v.cells.toList) r K
def idxC (x i : Value) (K : Value → Prop) : Prop :=
  match x, i with
  | .string s, .int _ j => 0 ≤ j ∧ j < s.size ∧ K (.int .u8 (bt s j))
  | _, _ => False
def boundC (v : Option Value) (d : Nat) (K : Int → Prop) : Prop :=
  match v with
  | none => K d
  | some (.int _ n) => K n
  | _ => False
def slstrC (x : Value) (lo hi : Option Value) (K : Value → Prop) : Prop :=
  match x with
  | .string s => boundC hi s.size fun h => boundC lo 0 fun l => 0 ≤ h ∧ h ≤ s.size ∧ 0 ≤ l ∧ l ≤ h ∧ K (.string (s.extract l.toNat h.toNat))
  | _ => False
def slslC (size : Nat) (x : Value) (lo hi mx : Option Value) (K : Value → Prop) : Prop :=
  match x with
  | .slice a len cap => (hi = none → mx = none) ∧ boundC mx cap fun m => boundC hi len fun h => boundC lo 0 fun l =>
      0 ≤ m ∧ m ≤ cap ∧ 0 ≤ h ∧ h ≤ m ∧ 0 ≤ l ∧ l ≤ h ∧ K (.slice (if m.toNat = l.toNat then a else a.map (·.add (l.toNat * size))) (h.toNat - l.toNat) (m.toNat - l.toNat))
  | _ => False
def faC (off : Nat) (x : Value) (K : Value → Prop) : Prop := match x with | .pointer (some a) => K (.pointer (some (a.add off))) | _ => False
def iaC (size : Nat) (x i : Value) (K : Value → Prop) : Prop :=
  match x, i with
  | .slice (some a) len _, .int _ j => 0 ≤ j ∧ j < len ∧ K (.pointer (some (a.add (j.toNat * size))))
  | _, _ => False
def nilC (x : Value) (K : Value → Prop) : Prop :=
  match x with
  | .pointer (some a) => K (.pointer (some a))
  | .func (.func f) a b => K (.func (.func f) a b)
  | .func (.yield l) a b => K (.func (.yield l) a b)
  | _ => False
def lenC (str : Bool) (x : Value) (K : Value → Prop) : Prop :=
  match str, x with
  | true, .string s => K (.int .i64 s.size)
  | false, .slice _ n _ => K (.int .i64 n)
  | _, _ => False
def capC (x : Value) (K : Value → Prop) : Prop := match x with | .slice _ _ c => K (.int .i64 c) | _ => False
def maxC (x y : Value) (K : Value → Prop) : Prop := match x, y with | .int k m, .int _ n => K (.int k (if n > m then n else m)) | _, _ => False

def minC (x y : Value) (K : Value → Prop) : Prop := match x, y with | .int k m, .int _ n => K (.int k (if n < m then n else m)) | _, _ => False
/-- Two plain values, held against each other. -/
def eqV : CK → Value → Value → Option Bool
  | .int _, .int k a, .int k' b => if k = k' then some (a == b) else none
  | .str, .string a, .string b => some (strEq a b)
  | .bool, .bool a, .bool b => some (a == b)
  | _, _, _ => none
def eqL : List CK → List Value → List Value → Option Bool
  | [], [], [] => some true
  | c :: cs, x :: xs, y :: ys => match eqV c x y, eqL cs xs ys with | some a, some b => some (a && b) | _, _ => none
  | _, _, _ => none
def eqsC (neg : Bool) (cs : List CK) (x y : Value) (K : Value → Prop) : Prop :=
  match x, y with
  | .agg xs, .agg ys => (match eqL cs xs.toList ys.toList with | some b => K (.bool (negB neg b)) | none => False)
  | _, _ => False
def idxaC (size len : Nat) (agg : Bool) (x i : Value) (K : Value → Prop) : Prop :=
  match x, i with
  | .agg cs, .int _ j => 0 ≤ j ∧ j < len ∧ (if agg = true then K (.agg (cs.extract (j.toNat * size) (j.toNat * size + size))) else (match cs[j.toNat * size]? with | some v => K v | none => False))
  | _, _ => False
def iapC (size len : Nat) (x i : Value) (K : Value → Prop) : Prop :=
  match x, i with
  | .pointer (some a), .int _ j => 0 ≤ j ∧ j < len ∧ K (.pointer (some (a.add (j.toNat * size))))
  | _, _ => False
def slarrC (size n : Nat) (x : Value) (lo hi : Option Value) (K : Value → Prop) : Prop :=
  match x with
  | .pointer (some a) => boundC hi n fun h => boundC lo 0 fun l => 0 ≤ h ∧ h ≤ n ∧ 0 ≤ l ∧ l ≤ h ∧ K (.slice (some (if n = l.toNat then a else a.add (l.toNat * size))) (h.toNat - l.toNat) (n - l.toNat))
  | _ => False
def pureR (r : RO) (ρ : Operand → Value) (K : Value → Prop) : Prop :=
  match r with
  | .mv x => K (ρ x)
  | .pick c a b => pickC (ρ c) (ρ a) (ρ b) K
  | .bin op x y => binC op (ρ x) (ρ y) K
  | .sh op x y => shC op (ρ x) (ρ y) K
  | .sop op x y => sopC op (ρ x) (ρ y) K
  | .beq neg x y => beqC neg (ρ x) (ρ y) K
  | .nileq c neg x y => nileqC c neg (ρ x) (ρ y) K
  | .neg x => negC (ρ x) K
  | .notb x => notC (ρ x) K
  | .cvt k x => cvtC k (ρ x) K
  | .runestr x => runeC (ρ x) K
  | .ext x i => extC (ρ x) i K
  | .fld off size agg x => fldC off size agg (ρ x) K
  | .build zero parts => fillC zero (parts.map fun p => (p.1, p.2.1, ρ p.2.2)) fun l => K (.agg l.toArray)
  | .idx x i => idxC (ρ x) (ρ i) K
  | .slstr x lo hi => slstrC (ρ x) (lo.map ρ) (hi.map ρ) K
  | .slsl size x lo hi mx => slslC size (ρ x) (lo.map ρ) (hi.map ρ) (mx.map ρ) K
  | .fa off x => faC off (ρ x) K
  | .ia size x i => iaC size (ρ x) (ρ i) K
  | .nilc x => nilC (ρ x) K
  | .mkif t x => K (.iface t (ρ x))
  | .mkfn fn first cap => K (.func fn (first.map ρ).toArray (cap.map ρ).toArray)
  | .len str x => lenC str (ρ x) K
  | .capp x => capC (ρ x) K
  | .maxi x y => maxC (ρ x) (ρ y) K
  | .mini x y => minC (ρ x) (ρ y) K
  | .eqs neg cs x y => eqsC neg cs (ρ x) (ρ y) K
  | .idxa size len agg x i => idxaC size len agg (ρ x) (ρ i) K
  | .iap size len x i => iapC size len (ρ x) (ρ i) K
  | .slarr size len x lo hi => slarrC size len (ρ x) (lo.map ρ) (hi.map ρ) K
  | _ => False

/-! ### what reads -/
def CellsAt (S : Hp) (a : Addr) (i : Nat) : List Value → Prop
  | [] => True
  | v :: vs => S.cell? (a.add i) = some v ∧ CellsAt S a (i + 1) vs
def loadsC (S : Hp) (a : Addr) (i : Nat) (cs : List CK) (K : List Value → Prop) : Prop :=
  match cs with
  | [] => K []
  | c :: cs => typd c fun v => S.cell? (a.add i) = some v ∧ loadsC S a (i + 1) cs fun vs => K (v :: vs)
def ldC (c : CK) (x : Value) (S : Hp) (K : Value → (Hp → Prop) → Prop) : Prop :=
  match x with
  | .pointer (some a) => typd c fun v => S.cell? a = some v ∧ K v (fun S' => S'.cell? a = some v)
  | _ => False
def ldaC (cs : List CK) (x : Value) (S : Hp) (K : Value → (Hp → Prop) → Prop) : Prop :=
  match x with
  | .pointer (some a) => loadsC S a 0 cs fun vs => K (.agg vs.toArray) (fun S' => CellsAt S' a 0 vs)
  | _ => False
def byteCells (l : List UInt8) : List Value := l.map fun b => .int .u8 b.toNat
def ldbC (x : Value) (S : Hp) (K : Value → (Hp → Prop) → Prop) : Prop :=
  match x with
  | .slice none _ _ => K (.string .empty) (fun _ => True)
  | .slice (some a) n _ => ∃ l : List UInt8, l.length = n ∧ CellsAt S a 0 (byteCells l) ∧ K (.string ⟨l.toArray⟩) (fun S' => CellsAt S' a 0 (byteCells l))
  | _ => False
/-- A map's entry. -/
def mfind (str : Bool) (k : Value) (es : List MapEntry) : Option (Option (Nat × Value)) := Instr.findNow (if str = true then .string else .int .i64) k es 0
def lkRes (zero : Value) (ok : Bool) (r : Option (Nat × Value)) : Value :=
  match r with
  | some (_, v) => if ok = true then .tuple #[v, .bool true] else v
  | none => if ok = true then .tuple #[zero, .bool false] else zero
def lkC (str : Bool) (zero : Value) (ok : Bool) (x k : Value) (S : Hp) (K : Value → (Hp → Prop) → Prop) : Prop :=
  match x with
  | .map none => K (lkRes zero ok none) (fun _ => True)
  | .map (some r) => ∃ es cl res, S r = some (.map es cl) ∧ mfind str k es.toList = some res ∧ K (lkRes zero ok res) (fun S' => S' r = some (.map es cl))
  | _ => False
def readR (r : RO) (ρ : Operand → Value) (S : Hp) (K : Value → (Hp → Prop) → Prop) : Prop :=
  match r with
  | .ld c x => ldC c (ρ x) S K
  | .lda cs x => ldaC cs (ρ x) S K
  | .ldbytes x => ldbC (ρ x) S K
  | .lk str zero ok x k => lkC str zero ok (ρ x) (ρ k) S K
  | _ => False

/-! ### what lays a block -/
def newC (S : Hp) (o : Obj) (K : Nat → Hp → Prop) : Prop := ∀ n, S n = none → K n (S.set n o)
def zeros (zero : List Value) (n : Nat) : List Value := (List.replicate n zero).flatten
def mkslC (t : TypeId) (bytes : Nat) (zero : List Value) (x y : Value) (S : Hp) (K : Value → Hp → Prop) : Prop :=
  match x, y with
  | .int _ l, .int _ c => 0 ≤ l ∧ l ≤ c ∧ c ≤ 140737488355328 ∧ bytes * c ≤ 281474976710656 ∧ newC S (.cells (zeros zero c.toNat).toArray t (0, 0)) fun n S' => K (.slice (some ⟨n, 0, none⟩) l.toNat c.toNat) S'
  | _, _ => False
def allocR (r : RO) (ρ : Operand → Value) (S : Hp) (K : Value → Hp → Prop) : Prop :=
  match r with
  | .alloc t zero => newC S (.cells zero.toArray t (0, 0)) fun n S' => K (.pointer (some ⟨n, 0, none⟩)) S'
  | .box t x => newC S (.cells (ρ x).cells t (0, 0)) fun n S' => K (.pointer (some ⟨n, 0, none⟩)) S'
  | .bslice t len zero parts => fillC zero (parts.map fun p => (p.1, p.2.1, ρ p.2.2)) fun l => newC S (.cells l.toArray t (0, 0)) fun n S' => K (.slice (some ⟨n, 0, none⟩) len len) S'
  | .mkmap => newC S (.map #[] 0) fun n S' => K (.map (some n)) S'
  | .mksl t bytes zero l c => mkslC t bytes zero (ρ l) (ρ c) S K
  | _ => False

/-! ### the heavy ones -/
def okPut (o : Obj) (off n : Nat) : Prop := ∃ c e lo hi, o = .cells c e (lo, hi) ∧ off + n ≤ c.size ∧ (hi ≤ off ∨ off + n ≤ lo)
def oputs (o : Obj) (off : Nat) (vs : List Value) : Obj :=
  match o with
  | .cells c e f => .cells (putAt c.toList off vs).toArray e f
  | o => o
def stC (n : Nat) (x v : Value) (S : Hp) (K : Value → Hp → Prop) : Prop :=
  match x with
  | .pointer (some ⟨b, off, none⟩) => v.cells.size = n ∧ v.cells.all vplain = true ∧ ∃ o, S b = some o ∧ okPut o off n ∧ K undef (S.set b (oputs o off v.cells.toList))
  | _ => False
def callC (P : Program) (f : FuncId) (args : List Value) (rk : RK) (S : Hp) (K : Value → Hp → Prop) : Prop :=
  callWp P f args.toArray S fun v S' => typR rk fun u => v = u ∧ K u S'
/-- A call of a value that is a function, or of a loop's yield. -/
def callVal (P : Program) (g : Value) (args : List Value) (S : Hp) (K : Value → Hp → Prop) : Prop :=
  match g with
  | .func (.func f) first cap => (∃ fn, P.funcs[f]? = some fn ∧ fn.body.isSome = true ∧ (fn.name == "runtime.NumGoroutine") = false) ∧ callWp P f (first.toList ++ args ++ cap.toList).toArray S K
  | .func (.yield l) first cap => first = #[] ∧ cap = #[] ∧ ∃ r : Loop, S l = some (.loop r) ∧ args.length = r.params.size ∧ roundWp P l r.fn ((r.params.zip args.toArray).foldl (fun tmps (t, a) => tmps.setIfInBounds t a) r.tmps) r.assign r.body S K
  | _ => False
theorem callVal_mono {P : Program} {g : Value} {args : List Value} {S : Hp} {K K' : Value → Hp → Prop} (h : callVal P g args S K) (hm : ∀ v S, K v S → K' v S) : callVal P g args S K' := by
  unfold callVal at *
  split at h
  · exact ⟨h.1, callWp_mono h.2 hm⟩
  · obtain ⟨h1, h2, r, h3, h4, h5⟩ := h; exact ⟨h1, h2, r, h3, h4, roundWp_mono h5 hm⟩
  · exact h.elim
def callvC (P : Program) (g : Value) (args : List Value) (rk : RK) (S : Hp) (K : Value → Hp → Prop) : Prop :=
  callVal P g args S fun v S' => typR rk fun u => v = u ∧ K u S'
/-- What is appended: the cells of a slice, or of a string. -/
def srcC (size : Nat) (x : Value) (S : Hp) (K : Nat → List Value → Prop) : Prop :=
  match x with
  | .slice none n _ => n = 0 ∧ K 0 []
  | .slice (some a) n _ => ∃ l : List Value, l.length = n * size ∧ CellsAt S a 0 l ∧ K n l
  | .string s => size = 1 ∧ K s.size (byteCells s.data.toList)
  | _ => False
def appC (elem size bytes : Nat) (zero : List Value) (s x : Value) (S : Hp) (K : Value → Hp → Prop) : Prop :=
  match s with
  | .slice base n cap => srcC size x S fun m l => l.all vplain = true ∧
      ((n + m ≤ cap → (base = none ∧ l = [] ∧ K (.slice base (n + m) cap) S) ∨
        ∃ b off o, base = some ⟨b, off, none⟩ ∧ S b = some o ∧ okPut o (off + n * size) (m * size) ∧ K (.slice base (n + m) cap) (S.set b (oputs o (off + n * size) l))) ∧
      (cap < n + m → (n + m) * bytes ≤ 140737488355328 ∧ ∃ old : List Value, old.length = n * size ∧ (base = none → n = 0) ∧ (∀ a, base = some a → CellsAt S a 0 old) ∧
        ∀ c, n + m ≤ c → newC S (.cells (old ++ l ++ zeros zero (c - (n + m))).toArray elem (0, 0)) fun r S' => K (.slice (some ⟨r, 0, none⟩) (n + m) c) S'))
  | _ => False
def strbC (elem : TypeId) (x : Value) (S : Hp) (K : Value → Hp → Prop) : Prop :=
  match x with
  | .string s => ∀ c, s.size ≤ c → newC S (.cells (byteCells s.data.toList ++ List.replicate (c - s.size) (Value.int .u8 0)).toArray elem (c, c + 1)) fun r S' => K (.slice (some ⟨r, 0, none⟩) s.size c) S'
  | _ => False
/-- A call of a function that the model stands in for. -/
def xcallC (P : Program) (f : FuncId) (args : List Value) (rk : RK) (S : Hp) (K : Value → Hp → Prop) : Prop :=
  ∃ fn e, P.funcs[f]? = some fn ∧ fn.body = none ∧ (fn.name == "runtime.NumGoroutine") = false ∧ Extern.findNext fn = none ∧ Extern.find fn = some e ∧ wpH P (e args.toArray) S fun v S' => typR rk fun u => v = u ∧ K u S'
/-- So many zeros, appended. -/
def appzC (elem size bytes : Nat) (zero : List Value) (s x : Value) (S : Hp) (K : Value → Hp → Prop) : Prop :=
  match s, x with
  | .slice base n cap, .int _ j => 0 ≤ j ∧ j ≤ 140737488355328 ∧ j * bytes ≤ 281474976710656 ∧ (zeros zero j.toNat).all vplain = true ∧
      ((n + j.toNat ≤ cap → (base = none ∧ K (.slice base (n + j.toNat) cap) S) ∨
        ∃ b off o, base = some ⟨b, off, none⟩ ∧ S b = some o ∧ okPut o (off + n * size) (j.toNat * size) ∧ K (.slice base (n + j.toNat) cap) (S.set b (oputs o (off + n * size) (zeros zero j.toNat)))) ∧
      (cap < n + j.toNat → (n + j.toNat) * bytes ≤ 140737488355328 ∧ ∃ old : List Value, old.length = n * size ∧ (base = none → n = 0) ∧ (∀ a, base = some a → CellsAt S a 0 old) ∧
        ∀ c, n + j.toNat ≤ c → newC S (.cells (old ++ zeros zero j.toNat ++ zeros zero (c - (n + j.toNat))).toArray elem (0, 0)) fun r S' => K (.slice (some ⟨r, 0, none⟩) (n + j.toNat) c) S'))
  | _, _ => False
/-- The first cells of what is copied: at most so many. -/
def srcN (size dl : Nat) (x : Value) (S : Hp) (K : Nat → List Value → Prop) : Prop :=
  match x with
  | .slice none n _ => n = 0 ∧ K 0 []
  | .slice (some a) n _ => ∃ l : List Value, l.length = min n dl * size ∧ CellsAt S a 0 l ∧ K (min n dl) l
  | .string s => size = 1 ∧ K (min s.size dl) (byteCells (s.extract 0 (min s.size dl)).data.toList)
  | _ => False
def copyC (size : Nat) (d x : Value) (S : Hp) (K : Value → Hp → Prop) : Prop :=
  match d with
  | .slice base dl _ => srcN size dl x S fun n l => l.all vplain = true ∧ ((l = [] ∧ K (.int .i64 n) S) ∨ ∃ b off o, base = some ⟨b, off, none⟩ ∧ S b = some o ∧ okPut o off l.length ∧ K (.int .i64 n) (S.set b (oputs o off l)))
  | _ => False
def msetC (str : Bool) (m k v : Value) (S : Hp) (K : Value → Hp → Prop) : Prop :=
  match m with
  | .map (some r) => ∃ es cl res, S r = some (.map es cl) ∧ mfind str k es.toList = some res ∧
      (match res with
       | some (i, _) => Instr.sameBits 10000 (((es[i]?).map (·.key)).getD k) k = true ∧ K undef (S.set r (.map (es.modify i fun e => { e with key := k, val := v }) cl))
       | none => K undef (S.set r (.map (es.push { key := k, val := v, born := cl }) (cl + 1))))
  | _ => False
def mdelC (str : Bool) (m k : Value) (S : Hp) (K : Value → Hp → Prop) : Prop :=
  match m with
  | .map none => K (.tuple #[]) S
  | .map (some r) => ∃ es cl res, S r = some (.map es cl) ∧ mfind str k es.toList = some res ∧
      (match res with
       | some (i, _) => K (.tuple #[]) (S.set r (.map (es.eraseIdxIfInBounds i) cl))
       | none => K (.tuple #[]) (S.set r (.map es cl)))
  | _ => False
def heavyR (P : Program) (r : RO) (ρ : Operand → Value) (S : Hp) (K : Value → Hp → Prop) : Prop :=
  match r with
  | .st n x v => stC n (ρ x) (ρ v) S K
  | .call f args rk => callC P f (args.map ρ) rk S K
  | .callv g args rk => callvC P (ρ g) (args.map ρ) rk S K
  | .app elem size bytes zero s x => appC elem size bytes zero (ρ s) (ρ x) S K
  | .strb elem x => strbC elem (ρ x) S K
  | .copy size d x => copyC size (ρ d) (ρ x) S K
  | .mset str m k v => msetC str (ρ m) (ρ k) (ρ v) S K
  | .mdel str m k => mdelC str (ρ m) (ρ k) S K
  | .xcall f args rk => xcallC P f (args.map ρ) rk S K
  | .appz elem size bytes zero s x => appzC elem size bytes zero (ρ s) (ρ x) S K
  | _ => False
end Go.PH
