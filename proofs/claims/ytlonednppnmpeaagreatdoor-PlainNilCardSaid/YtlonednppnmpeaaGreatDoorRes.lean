/- PH: an operation is resolved by the program's types; what is resolved is sound. -/
import Derived.Test.YtlonednppnmpeaaGreatDoorSound5
set_option linter.all false
set_option linter.unusedSimpArgs false
namespace Go.PH
open Go

def FnOk (ρ : Operand → Value) : Prop := ∀ f, ρ (.func f) = .func (.func f) #[] #[]
def Sound (P : Program) (o : Oper) (r : RO) : Prop :=
  ∀ ρ : Operand → Value, FnOk ρ → match clsR r with
    | 0 => ∀ K : Value → Prop, pureR r ρ K → ∃ v, readv P Hp.none (execOp ρ o) = some (.value v) ∧ K v
    | 1 => ∀ (S : Hp) (K : Value → (Hp → Prop) → Prop), readR r ρ S K → ∃ v H, readv P S (execOp ρ o) = some (.value v) ∧ K v H ∧ ∀ S', H S' → readv P S' (execOp ρ o) = some (.value v)
    | 2 => ∀ (S : Hp) (K : Value → Hp → Prop), allocR r ρ S K → (∃ ob f, AllocIs P (execOp ρ o) ob f) ∧ wpH P (execOp ρ o) S (fun nx S' => ∃ v, nx = .value v ∧ K v S')
    | _ => ∀ (S : Hp) (K : Value → Hp → Prop), heavyR P r ρ S K → wpH P (execOp ρ o) S (opPost P K)
theorem Sound.of0 {P : Program} {o : Oper} {r : RO} (hc : clsR r = 0) (h : Snd0 P o r) : Sound P o r := by intro ρ _; rw [hc]; exact h ρ
theorem Sound.of1 {P : Program} {o : Oper} {r : RO} (hc : clsR r = 1) (h : Snd1 P o r) : Sound P o r := by intro ρ _; rw [hc]; exact h ρ
theorem Sound.of2 {P : Program} {o : Oper} {r : RO} (hc : clsR r = 2) (h : Snd2 P o r) : Sound P o r := by intro ρ _; rw [hc]; exact h ρ
theorem Sound.of3 {P : Program} {o : Oper} {r : RO} (hc : clsR r = 3) (h : Snd3 P o r) : Sound P o r := by intro ρ _; rw [hc]; exact h ρ

def aggB (P : Program) (t : TypeId) : Option Bool :=
  match P.underlying t with
  | some (.struct _) => some true
  | some (.array _ _) => some true
  | some _ => some false
  | none => none
theorem aggB_spec {P : Program} {t : TypeId} {b : Bool} {S : Hp} (h : aggB P t = some b) : readv P S (isAgg t) = some b := by
  unfold aggB at h
  unfold isAgg
  cases hu : P.underlying t with
  | none => rw [hu] at h; cases h
  | some d =>
    rw [hu] at h
    rw [readv_bind', readv_underlying hu]
    cases d <;> simp at h <;> subst h <;> rfl
def rkOf (P : Program) : Nat → TypeId → RK
  | 0, t => .one (ckOf P t)
  | d + 1, t =>
    match P.underlying t with
    | some (.tuple ts) => if ts.size = 0 then .unit else .tup (ts.toList.map (rkOf P d))
    | some (.struct _) => .agg (cksOf P t (((P.info? t).map (·.size)).getD 0))
    | some (.array _ _) => .agg (cksOf P t (((P.info? t).map (·.size)).getD 0))
    | _ => .one (ckOf P t)
def u8B (P : Program) (t : TypeId) : Bool := match P.underlying t with | some (.int .u8) => true | _ => false
theorem u8B_spec {P : Program} {t : TypeId} (h : u8B P t = true) : P.underlying t = some (.int .u8) := by
  unfold u8B at h
  split at h
  · assumption
  · cases h

def resBin (P : Program) (op : BinOp) (t : TypeId) (x y : Operand) : Option RO :=
  match op with
  | .shl => some (.sh .shl x y)
  | .shr => some (.sh .shr x y)
  | op =>
    match P.underlying t with
    | some (.int _) => some (.bin op x y)
    | some .string => some (.sop op x y)
    | some .bool => (match op with | .eql => some (.beq false x y) | .neq => some (.beq true x y) | _ => none)
    | some (.pointer _) => (match op with | .eql => some (.nileq .ptr false x y) | .neq => some (.nileq .ptr true x y) | _ => none)
    | some (.slice _) => (match op with | .eql => some (.nileq .slice false x y) | .neq => some (.nileq .slice true x y) | _ => none)
    | some (.map _ _) => (match op with | .eql => some (.nileq .map false x y) | .neq => some (.nileq .map true x y) | _ => none)
    | some (.struct fs) => if flatB P 0 fs.toList = true ∧ P.stoodInHeld t = false ∧ P.eqGuardType P.depth t = false then (match op with | .eql => some (.eqs false (fs.toList.map fun f => ckOf P f.type) x y) | .neq => some (.eqs true (fs.toList.map fun f => ckOf P f.type) x y) | _ => none) else none
    | _ => none
theorem resBin_sound {P : Program} {o : Oper} {op : BinOp} {t yt : TypeId} {x y : Operand} {r : RO} (ho : o.op = .binOp op t x y yt) (h : resBin P op t x y = some r) : Sound P o r := by
  unfold resBin at h
  split at h
  · cases h; exact .of0 rfl (sh_sound ho)
  · cases h; exact .of0 rfl (sh_sound ho)
  · split at h
    · cases h; exact .of0 rfl (bin_sound ho)
    · cases h; exact .of0 rfl (sop_sound ho)
    · rename_i hu
      split at h <;> cases h
      · exact .of0 rfl (beq_sound (neg := false) ho rfl hu)
      · exact .of0 rfl (beq_sound (neg := true) ho rfl hu)
    · rename_i hu
      split at h <;> cases h
      · exact .of0 rfl (nileq_sound (neg := false) ho rfl (.inl ⟨rfl, _, hu⟩))
      · exact .of0 rfl (nileq_sound (neg := true) ho rfl (.inl ⟨rfl, _, hu⟩))
    · rename_i hu
      split at h <;> cases h
      · exact .of0 rfl (nileq_sound (neg := false) ho rfl (.inr (.inl ⟨rfl, _, hu⟩)))
      · exact .of0 rfl (nileq_sound (neg := true) ho rfl (.inr (.inl ⟨rfl, _, hu⟩)))
    · rename_i hu
      split at h <;> cases h
      · exact .of0 rfl (nileq_sound (neg := false) ho rfl (.inr (.inr ⟨rfl, _, _, hu⟩)))
      · exact .of0 rfl (nileq_sound (neg := true) ho rfl (.inr (.inr ⟨rfl, _, _, hu⟩)))
    · rename_i fs hu
      split at h
      · rename_i hc
        split at h <;> cases h
        · exact .of0 rfl (eqs_sound (neg := false) ho rfl hu hc.1 hc.2.1 hc.2.2)
        · exact .of0 rfl (eqs_sound (neg := true) ho rfl hu hc.1 hc.2.1 hc.2.2)
      · cases h
    · cases h
def resConv (P : Program) (s d : TypeId) (x : Operand) : Option RO :=
  match P.underlying s, P.underlying d with
  | some (.int _), some (.int k) => some (.cvt k x)
  | some (.int _), some .string => some (.runestr x)
  | some (.slice e), some .string => if u8B P e = true then some (.ldbytes x) else none
  | some .string, some (.slice e) => if u8B P e = true then some (.strb e x) else none
  | _, _ => none
theorem resConv_sound {P : Program} {o : Oper} {s d : TypeId} {x : Operand} {r : RO} (ho : o.op = .convert s d x) (h : resConv P s d x = some r) : Sound P o r := by
  unfold resConv at h
  split at h
  · rename_i h1 h2; cases h; exact .of0 rfl (cvt_sound ho h1 h2)
  · rename_i h1 h2; cases h; exact .of0 rfl (runestr_sound ho h1 h2)
  · rename_i h1 h2
    split at h
    · rename_i h3; cases h; exact .of1 rfl (ldbytes_sound ho h1 h2 (u8B_spec h3))
    · cases h
  · rename_i h1 h2
    split at h
    · rename_i h3; cases h; exact .of3 rfl (strb_sound ho h1 h2 (u8B_spec h3))
    · cases h
  · cases h
def size? (P : Program) (t : TypeId) : Option Nat := (P.info? t).map (·.size)
theorem size?_spec {P : Program} {t : TypeId} {n : Nat} {S : Hp} (h : size? P t = some n) : readv P S (sizeOf t) = some n := by
  unfold size? at h
  cases hi : P.info? t with
  | none => rw [hi] at h; cases h
  | some i => rw [hi] at h; cases h; exact readv_sizeOf hi
def zero? (P : Program) (t : TypeId) : Option Value := (P.info? t).bind (·.zero)
theorem zero?_spec {P : Program} {t : TypeId} {z : Value} {S : Hp} (h : zero? P t = some z) : readv P S (zeroValue t) = some z := by
  unfold zero? at h
  cases hi : P.info? t with
  | none => rw [hi] at h; cases h
  | some i => rw [hi] at h; exact readv_zeroValue hi h
def fieldOf (P : Program) (t : TypeId) (f : Nat) : Option Field := match P.underlying t with | some (.struct fs) => fs[f]? | _ => none
def resField (P : Program) (t : TypeId) (x : Operand) (f : Nat) : Option RO :=
  match P.underlying t with
  | some (.struct fs) => (match fs[f]? with
    | some fd => (match aggB P fd.type, size? P fd.type with
      | some agg, some n => some (.fld fd.offset n agg x)
      | _, _ => none)
    | none => none)
  | _ => none
def resFa (P : Program) (t : TypeId) (x : Operand) (f : Nat) : Option RO :=
  match P.underlying t with
  | some (.struct fs) => (match fs[f]? with
    | some fd => (match size? P fd.type with
      | some n => if n = 0 then none else some (.fa fd.offset x)
      | none => none)
    | none => none)
  | _ => none
def resBuild (P : Program) (t : TypeId) (ps : Array (Nat × Operand)) : Option RO :=
  match P.underlying t with
  | some (.struct fs) => if fs.toList.all (fun f => (P.info? f.type).isSome) = true then (match zero? P t, partsAt (fun i => (placesOf P fs.toList)[i]?) ps.toList with
    | some z, some q => some (.build z.cells.toList q)
    | _, _ => none) else none
  | _ => none
def resBslice (P : Program) (t : TypeId) (n : Nat) (ps : Array (Nat × Operand)) : Option RO :=
  match P.underlying t with
  | some (.slice e) => (match P.info? e with
    | some i => (match i.zero with
      | some z => if z.cells.size = i.size ∧ n * i.size ≤ 16777216 then (match partsAt (fun k => some (k * i.size, i.size)) ps.toList with
        | some q => some (.bslice e n (zeros z.cells.toList n) q)
        | none => none) else none
      | none => none)
    | none => none)
  | _ => none
def resMksl (P : Program) (t : TypeId) (l c : Operand) : Option RO :=
  match P.underlying t with
  | some (.slice e) => (match P.info? e with
    | some i => (match i.zero with
      | some z => if z.cells.size = i.size then some (.mksl e i.bytes z.cells.toList l c) else none
      | none => none)
    | none => none)
  | _ => none
/-- A map's keys: texts or numbers; the zero of what it holds. -/
def mapOf (P : Program) (t : TypeId) : Option (Bool × TypeId) :=
  match P.underlying t with
  | some (.map kt et) => (match P.underlying kt with
    | some d => (match keyKind d with | some s => some (s, et) | none => none)
    | none => none)
  | _ => none
theorem mapOf_spec {P : Program} {t et : TypeId} {str : Bool} (h : mapOf P t = some (str, et)) : ∃ kt d, P.underlying t = some (.map kt et) ∧ P.underlying kt = some d ∧ keyKind d = some str := by
  unfold mapOf at h
  split at h
  · rename_i kt et' hu
    split at h
    · rename_i d hd
      split at h
      · rename_i s hs; cases h; exact ⟨kt, d, hu, hd, hs⟩
      · cases h
    · cases h
  · cases h
def resCall (P : Program) (c : Call) (t : TypeId) : Option RO :=
  match c with
  | { callee := .value (.func f), args := args, argTypes := _ } => (match P.funcs[f]? with
    | some fn => if fn.body.isSome = true then (if (fn.name == "runtime.NumGoroutine") = false then some (.call f args.toList (rkOf P 3 t)) else none) else some (.xcall f args.toList (rkOf P 3 t))
    | none => none)
  | { callee := .value (.tmp g), args := args, argTypes := _ } => some (.callv (.tmp g) args.toList (rkOf P 3 t))
  | { callee := .builtin .len, args := args, argTypes := ats } => (match args.toList, ats.toList with
    | [x], [u] => (match P.underlying u with
      | some .string => some (.len true x)
      | some (.slice _) => some (.len false x)
      | _ => none)
    | _, _ => none)
  | { callee := .builtin .cap, args := args, argTypes := ats } => (match args.toList, ats.toList with
    | [x], [u] => (match P.underlying u with
      | some (.slice _) => some (.capp x)
      | _ => none)
    | _, _ => none)
  | { callee := .builtin .max, args := args, argTypes := _ } => (match args.toList with
    | [x, y] => some (.maxi x y)
    | _ => none)
  | { callee := .builtin .min, args := args, argTypes := _ } => (match args.toList with
    | [x, y] => some (.mini x y)
    | _ => none)
  | { callee := .builtin .copy, args := args, argTypes := ats } => (match args.toList, ats.toList with
    | [x, y], [u, _] => (match P.underlying u with
      | some (.slice e) => (match size? P e with | some n => some (.copy n x y) | none => none)
      | _ => none)
    | _, _ => none)
  | { callee := .builtin .delete, args := args, argTypes := ats } => (match args.toList, ats.toList with
    | [x, y], [u, _] => (match mapOf P u with
      | some (s, _) => some (.mdel s x y)
      | none => none)
    | _, _ => none)
  | { callee := .builtin .append, args := args, argTypes := ats } => (match args.toList, ats.toList with
    | [s, x], [u, u2] => (match P.underlying u, P.underlying u2 with
      | some (.slice e), some (.slice _) => (match P.info? e with
        | some i => (match i.zero with
          | some z => if i.bytes ≠ 0 then some (.app e i.size i.bytes z.cells.toList s x) else none
          | none => none)
        | none => none)
      | some (.slice e), some .string => (match P.info? e with
        | some i => (match i.zero with
          | some z => if i.bytes ≠ 0 then some (.app e i.size i.bytes z.cells.toList s x) else none
          | none => none)
        | none => none)
      | some (.slice e), some (.int _) => (match P.info? e with
        | some i => (match i.zero with
          | some z => if i.bytes ≠ 0 ∧ z.cells.size = i.size then some (.appz e i.size i.bytes z.cells.toList s x) else none
          | none => none)
        | none => none)
      | _, _ => none)
    | _, _ => none)
  | _ => none
theorem arr_of {α : Type} {xs : Array α} {l : List α} (h : xs.toList = l) : xs = l.toArray := by rw [← h]
theorem resCall_sound {P : Program} {o : Oper} {c : Call} {t : TypeId} {r : RO} (ho : o.op = .call c) (h : resCall P c t = some r) : Sound P o r := by
  unfold resCall at h
  split at h
  · rename_i f args ats
    split at h
    · rename_i fn hf
      split at h
      · rename_i hb
        split at h
        · rename_i hn
          cases h
          intro ρ hρ S K hr
          exact call_sound ho hf hb hn ρ S K (hρ f) hr
        · cases h
      · cases h
        intro ρ hρ S K hr
        exact xcall_sound ho ρ S K (hρ f) hr
    · cases h
  · cases h; exact .of3 rfl (callv_sound ho)
  · rename_i args ats
    split at h
    · rename_i x u e1 e2
      rw [arr_of e1, arr_of e2] at ho
      split at h
      · rename_i hu; cases h; exact .of0 rfl (len_sound ho (.inl ⟨rfl, hu⟩))
      · rename_i hu; cases h; exact .of0 rfl (len_sound ho (.inr ⟨rfl, _, hu⟩))
      · cases h
    · cases h
  · rename_i args ats
    split at h
    · rename_i x u e1 e2
      rw [arr_of e1, arr_of e2] at ho
      split at h
      · rename_i hu; cases h; exact .of0 rfl (cap_sound ho hu)
      · cases h
    · cases h
  · rename_i args ats
    split at h
    · rename_i x y e1
      rw [arr_of e1] at ho
      cases h; exact .of0 rfl (max_sound ho)
    · cases h
  · rename_i args ats
    split at h
    · rename_i x y e1
      rw [arr_of e1] at ho
      cases h; exact .of0 rfl (min_sound ho)
    · cases h
  · rename_i args ats
    split at h
    · rename_i x y u u2 e1 e2
      rw [arr_of e1, arr_of e2] at ho
      split at h
      · rename_i el hu
        split at h
        · rename_i n hn
          cases h
          obtain ⟨i, hi, rfl⟩ : ∃ i, P.info? el = some i ∧ i.size = n := by
            unfold size? at hn
            cases hi : P.info? el with
            | none => rw [hi] at hn; cases hn
            | some i => rw [hi] at hn; cases hn; exact ⟨i, rfl, rfl⟩
          exact .of3 rfl (copy_sound ho hu hi)
        · cases h
      · cases h
    · cases h
  · rename_i args ats
    split at h
    · rename_i x y u u2 e1 e2
      rw [arr_of e1, arr_of e2] at ho
      split at h
      · rename_i s et hm
        cases h
        obtain ⟨kt, d, h1, h2, h3⟩ := mapOf_spec hm
        exact .of3 rfl (mdel_sound ho h1 h2 h3)
      · cases h
    · cases h
  · rename_i args ats
    split at h
    · rename_i s x u u2 e1 e2
      rw [arr_of e1, arr_of e2] at ho
      split at h
      · rename_i hu hu2
        split at h
        · rename_i i hi
          split at h
          · rename_i z hz
            split at h
            · rename_i hb; cases h; exact .of3 rfl (app_sound ho hu hi hz ⟨_, hu2, fun k e => by cases e⟩ hb)
            · cases h
          · cases h
        · cases h
      · rename_i hu hu2
        split at h
        · rename_i i hi
          split at h
          · rename_i z hz
            split at h
            · rename_i hb; cases h; exact .of3 rfl (app_sound ho hu hi hz ⟨_, hu2, fun k e => by cases e⟩ hb)
            · cases h
          · cases h
        · cases h
      · rename_i hu hu2
        split at h
        · rename_i i hi
          split at h
          · rename_i z hz
            split at h
            · rename_i hb; cases h; exact .of3 rfl (appz_sound ho hu hi hz hu2 hb.1 hb.2)
            · cases h
          · cases h
        · cases h
      · cases h
    · cases h
  · cases h

def resolveOp (P : Program) (op : Op) (ty : TypeId) : Option RO :=
  match op with
  | .move x => some (.mv x)
  | .assign x => some (.mv x)
  | .pick c a b => some (.pick c a b)
  | .binOp op t x y _ => resBin P op t x y
  | .unOp .neg _ x => some (.neg x)
  | .unOp .not _ x => some (.notb x)
  | .convert s d x => resConv P s d x
  | .extract x i => some (.ext x i)
  | .field t x f => resField P t x f
  | .fieldAddr t x f => resFa P t x f
  | .index t x i => (match P.underlying t with | some .string => some (.idx x i) | some (.array len e) => (match size? P e, aggB P e with | some n, some a => some (.idxa n len a x i) | _, _ => none) | _ => none)
  | .indexAddr t x i => (match P.underlying t with | some (.slice e) => (size? P e).map fun n => .ia n x i | some (.array len e) => (size? P e).map fun n => .iap n len x i | _ => none)
  | .slice t x lo hi none => (match P.underlying t with | some .string => some (.slstr x lo hi) | some (.slice e) => (size? P e).map fun n => .slsl n x lo hi none | some (.array len e) => (size? P e).map fun n => .slarr n len x lo hi | _ => none)
  | .slice t x lo hi mx => (match P.underlying t with | some (.slice e) => (size? P e).map fun n => .slsl n x lo hi mx | _ => none)
  | .nilCheck x => some (.nilc x)
  | .makeFunc fn first cap => some (.mkfn fn first.toList cap.toList)
  | .makeInterface t x => (match P.underlying t with | some (.interface _) => none | some _ => some (.mkif t x) | none => none)
  | .load t x => (match aggB P t with
    | some false => some (.ld (ckOf P t) x)
    | some true => (match size? P t with | some n => some (.lda (cksOf P t n) x) | none => none)
    | none => none)
  | .store t x v => (size? P t).map fun n => .st n x v
  | .alloc t => (zero? P t).map fun z => .alloc t z.cells.toList
  | .box t x => some (.box t x)
  | .build t ps => resBuild P t ps
  | .buildSlice t n ps => resBslice P t n ps
  | .makeMap _ none => some .mkmap
  | .makeSlice t l c => resMksl P t l c
  | .lookup t x k ok => (match mapOf P t with | some (s, et) => (match zero? P et with | some z => some (.lk s z ok x k) | none => none) | none => none)
  | .mapUpdate t m k v => (match mapOf P t with | some (s, _) => some (.mset s m k v) | none => none)
  | .insert t m k v => (match mapOf P t with | some (s, _) => some (.mset s m k v) | none => none)
  | .call c => resCall P c ty
  | _ => none
theorem cksOf_length {P : Program} {t : TypeId} {n : Nat} : (cksOf P t n).length = n := by
  unfold cksOf
  simp only
  split
  · assumption
  · simp
theorem resolve_sound {P : Program} {o : Oper} {r : RO} (h : resolveOp P o.op o.type = some r) : Sound P o r := by
  unfold resolveOp at h
  split at h
  · rename_i x e; cases h; exact .of0 rfl (mv_sound (.inl e))
  · rename_i x e; cases h; exact .of0 rfl (mv_sound (.inr e))
  · rename_i e; cases h; exact .of0 rfl (pick_sound e)
  · rename_i e; exact resBin_sound e h
  · rename_i e; cases h; exact .of0 rfl (neg_sound e)
  · rename_i e; cases h; exact .of0 rfl (notb_sound e)
  · rename_i e; exact resConv_sound e h
  · rename_i e; cases h; exact .of0 rfl (ext_sound e)
  · rename_i t x f e
    unfold resField at h
    split at h
    · rename_i fs hu
      split at h
      · rename_i fd hf
        split at h
        · rename_i agg n ha hs; cases h; exact .of0 rfl (fld_sound e hu hf (aggB_spec ha) (fun _ => size?_spec hs))
        · cases h
      · cases h
    · cases h
  · rename_i t x f e
    unfold resFa at h
    split at h
    · rename_i fs hu
      split at h
      · rename_i fd hf
        split at h
        · rename_i n hs
          split at h
          · cases h
          · rename_i hn; cases h; exact .of0 rfl (fa_sound e hu hf (size?_spec hs) hn)
        · cases h
      · cases h
    · cases h
  · rename_i e
    split at h
    · rename_i hu; cases h; exact .of0 rfl (idx_sound e hu)
    · rename_i len el hu
      split at h
      · rename_i n a hs ha; cases h; exact .of0 rfl (idxa_sound e hu (size?_spec hs) (aggB_spec ha))
      · cases h
    · cases h
  · rename_i e
    split at h
    · rename_i el hu
      cases hs : size? P el with
      | none => rw [hs] at h; cases h
      | some n => rw [hs] at h; cases h; exact .of0 rfl (ia_sound e hu (size?_spec hs))
    · rename_i len el hu
      cases hs : size? P el with
      | none => rw [hs] at h; cases h
      | some n => rw [hs] at h; cases h; exact .of0 rfl (iap_sound e hu (size?_spec hs))
    · cases h
  · rename_i e
    split at h
    · rename_i hu; cases h; exact .of0 rfl (slstr_sound e hu)
    · rename_i el hu
      cases hs : size? P el with
      | none => rw [hs] at h; cases h
      | some n => rw [hs] at h; cases h; exact .of0 rfl (slsl_sound e hu (size?_spec hs))
    · rename_i len el hu
      cases hs : size? P el with
      | none => rw [hs] at h; cases h
      | some n => rw [hs] at h; cases h; exact .of0 rfl (slarr_sound e hu (size?_spec hs))
    · cases h
  · rename_i e
    split at h
    · rename_i el hu
      cases hs : size? P el with
      | none => rw [hs] at h; cases h
      | some n => rw [hs] at h; cases h; exact .of0 rfl (slsl_sound e hu (size?_spec hs))
    · cases h
  · rename_i e; cases h; exact .of0 rfl (nilc_sound e)
  · rename_i e; cases h; exact .of0 rfl (mkfn_sound e)
  · rename_i e
    split at h
    · cases h
    · rename_i d hd hu; cases h; exact .of0 rfl (mkif_sound e hu (fun ms em => by subst em; exact hd ms rfl))
    · cases h
  · rename_i e
    split at h
    · rename_i ha; cases h; exact .of1 rfl (ld_sound e (fun S => aggB_spec ha))
    · rename_i ha
      split at h
      · rename_i n hs; cases h; exact .of1 rfl (lda_sound e (fun S => aggB_spec ha) (fun S => by rw [cksOf_length]; exact size?_spec hs))
      · cases h
    · cases h
  · rename_i t x v e
    cases hs : size? P t with
    | none => rw [hs] at h; cases h
    | some n => rw [hs] at h; cases h; exact .of3 rfl (st_sound e (size?_spec hs))
  · rename_i t e
    cases hs : zero? P t with
    | none => rw [hs] at h; cases h
    | some z => rw [hs] at h; cases h; exact .of2 rfl (alloc_sound e (zero?_spec hs))
  · rename_i e; cases h; exact .of2 rfl (box_sound e)
  · rename_i t ps e
    unfold resBuild at h
    split at h
    · rename_i fs hu
      split at h
      · rename_i hall
        split at h
        · rename_i z q hz hq
          cases h
          refine .of0 rfl (build_sound e hu (zero?_spec hz) (fun f hf => ?_) hq)
          rw [List.all_eq_true] at hall
          exact Option.isSome_iff_exists.1 (hall f hf)
        · cases h
      · cases h
    · cases h
  · rename_i t n ps e
    unfold resBslice at h
    split at h
    · rename_i el hu
      split at h
      · rename_i i hi
        split at h
        · rename_i z hz
          split at h
          · rename_i hb
            split at h
            · rename_i q hq; cases h; exact .of2 rfl (bslice_sound e hu hi hz hb.1 hb.2 hq)
            · cases h
          · cases h
        · cases h
      · cases h
    · cases h
  · rename_i e; cases h; exact .of2 rfl (mkmap_sound e)
  · rename_i t l c e
    unfold resMksl at h
    split at h
    · rename_i el hu
      split at h
      · rename_i i hi
        split at h
        · rename_i z hz
          split at h
          · rename_i hs; cases h; exact .of2 rfl (mksl_sound e hu hi hz hs)
          · cases h
        · cases h
      · cases h
    · cases h
  · rename_i e
    split at h
    · rename_i s et hm
      split at h
      · rename_i z hz
        cases h
        obtain ⟨kt, d, h1, h2, h3⟩ := mapOf_spec hm
        exact .of1 rfl (lk_sound e h1 h2 h3 (fun S => zero?_spec hz))
      · cases h
    · cases h
  · rename_i e
    split at h
    · rename_i s et hm
      cases h
      obtain ⟨kt, d, h1, h2, h3⟩ := mapOf_spec hm
      exact .of3 rfl (mset_sound (.inl e) h1 h2 h3)
    · cases h
  · rename_i e
    split at h
    · rename_i s et hm
      cases h
      obtain ⟨kt, d, h1, h2, h3⟩ := mapOf_spec hm
      exact .of3 rfl (mset_sound (.inr e) h1 h2 h3)
    · cases h
  · rename_i c e; exact resCall_sound e h
  · cases h
end Go.PH
