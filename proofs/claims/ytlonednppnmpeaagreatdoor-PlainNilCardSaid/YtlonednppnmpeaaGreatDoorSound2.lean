/- PH: the resolved operations are sound: bytes to a string, builds, blocks, stores, calls, appends. -/
import Derived.Test.YtlonednppnmpeaaGreatDoorSound
set_option linter.all false
set_option linter.unusedSimpArgs false
namespace Go.PH
open Go
section
variable {P : Program} {o : Oper}

theorem readv_bytes {S : Hp} (f : Value → ByteArray → Sem (ForInStep ByteArray)) (hf : ∀ (b : UInt8) r, f (.int .u8 b.toNat) r = pure (ForInStep.yield (r.push b))) : ∀ (l : List UInt8) (s : ByteArray), readv P S (forIn (byteCells l) s f) = some ⟨s.data ++ l.toArray⟩ := by
  intro l
  induction l with
  | nil => intro s; simp [byteCells, readv_pure']
  | cons b l ih =>
    intro s
    simp only [byteCells, List.map_cons, List.forIn_cons]
    rw [readv_bind', hf]
    simp only [readv_pure', Option.bind_some]
    have := ih (s.push b)
    simp only [byteCells] at this
    rw [this]
    simp
theorem ldbytes_sound {s d e : TypeId} {x : Operand} (ho : o.op = .convert s d x) (hs : P.underlying s = some (.slice e)) (hd : P.underlying d = some .string) (he : P.underlying e = some (.int .u8)) : Snd1 P o (.ldbytes x) := by
  intro ρ S K h
  simp only [readR, ldbC] at h
  simp only [execOp, ho]
  have conv : ∀ (S : Hp) (a : Option Addr) (n c : Nat) (v : Value), readv P S (Conv.bytesToString (.slice a n c)) = some v → readv P S (convert s d (.slice a n c)) = some v := by
    intro S a n c v hv
    unfold convert
    rw [readv_bind', readv_underlying hs]
    simp only [Option.bind_some]
    rw [readv_bind', readv_underlying hd]
    simp only [Option.bind_some]
    rw [readv_bind', readv_underlying he]
    exact hv
  split at h
  · rename_i n c e1
    rw [e1]
    have go : ∀ S : Hp, readv P S (convert s d (.slice none n c)) = some (.string .empty) := fun S => conv S _ _ _ _ rfl
    exact ⟨_, _, readv_val (go S), h, fun S' _ => readv_val (go S')⟩
  · rename_i a n c e1
    obtain ⟨l, hl, hc, h⟩ := h
    rw [e1]
    have go : ∀ S' : Hp, CellsAt S' a 0 (byteCells l) → readv P S' (convert s d (.slice (some a) n c)) = some (.string ⟨l.toArray⟩) := by
      intro S' hc
      refine conv S' _ _ _ _ ?_
      unfold Conv.bytesToString
      rw [readv_bind']
      unfold loadCells
      have hlen : n = (byteCells l).length := by simp [byteCells, hl]
      rw [hlen, readv_loadCells a _ 0 #[] hc]
      simp only [Option.bind_some]
      rw [readv_bind']
      have e2 : (#[] ++ (byteCells l).toArray : Array Value) = (byteCells l).toArray := by simp
      rw [e2, List.forIn_toArray, readv_bytes _ (fun b r => by simp) l ByteArray.empty]
      simp [readv_pure']
    exact ⟨_, _, readv_val (go S hc), h, fun S' hS => readv_val (go S' hS)⟩
  · exact h.elim

/-! ### builds -/
theorem foldl_put (cs : List Value) : ∀ (off : Nat) (cells : List Value) (k : Nat), (cs.zipIdx k).foldl (fun (a : Array Value) (p : Value × Nat) => a.setIfInBounds (off + p.2) p.1) cells.toArray = (putAt cells (off + k) cs).toArray := by
  induction cs with
  | nil => intro off cells k; rfl
  | cons c cs ih =>
    intro off cells k
    simp only [List.zipIdx_cons, List.foldl_cons, putAt]
    rw [List.setIfInBounds_toArray, ih off (cells.set (off + k) c) (k + 1)]
    rw [Nat.add_assoc]
theorem putAt_length (vs : List Value) : ∀ (cells : List Value) (off : Nat), (putAt cells off vs).length = cells.length := by
  induction vs with
  | nil => intro cells off; rfl
  | cons v vs ih => intro cells off; simp only [putAt]; rw [ih]; simp
theorem fill_ok (place : Nat → Option (Nat × Nat)) : ∀ (parts : List (Nat × Value)) (q : List (Nat × Nat × Value)) (zero : List Value) (K : List Value → Prop), q.map (fun p => (p.1, p.2.1)) = parts.filterMap (fun p => place p.1) → q.map (fun p => p.2.2) = parts.map (·.2) → q.length = parts.length →
    fillC zero q K → ∃ l, Instr.fill place zero.toArray parts = some l.toArray ∧ K l := by
  intro parts
  induction parts with
  | nil =>
    intro q zero K _ h2 _ h
    cases q with
    | nil => exact ⟨zero, rfl, by unfold fillC at h; exact h⟩
    | cons x q => simp at h2
  | cons p parts ih =>
    intro q zero K h1 h2 h3 h
    cases q with
    | nil => simp at h2
    | cons x q =>
      obtain ⟨off, size, v⟩ := x
      obtain ⟨i, v'⟩ := p
      simp only [List.map_cons, List.cons.injEq] at h2
      obtain ⟨rfl, h2⟩ := h2
      simp only [List.filterMap_cons] at h1
      cases hp : place i with
      | none =>
        exfalso
        rw [hp] at h1
        have hlen := congrArg List.length h1
        simp only [List.length_map, List.map_cons, List.length_cons] at hlen
        have := List.length_filterMap_le (fun p : Nat × Value => place p.1) parts
        simp at h3
        omega
      | some os =>
        rw [hp] at h1
        simp only [List.map_cons, List.cons.injEq] at h1
        obtain ⟨rfl, h1⟩ := h1
        unfold fillC at h
        obtain ⟨hs, hb, h⟩ := h
        obtain ⟨l, hl, hk⟩ := ih q _ K h1 h2 (by simpa using h3) h
        refine ⟨l, ?_, hk⟩
        unfold Instr.fill
        rw [hp]
        simp only
        rw [if_neg (by simp [hs]; omega)]
        rw [← hl]
        congr 1
        have := foldl_put v.cells.toList off zero 0
        rw [Nat.add_zero] at this
        rw [← this]
        rw [← Array.foldl_toList]
        congr 1
        simp

/-! ### blocks -/
theorem wpH_pre {α β : Type} (s : Sem α) : ∀ {a : α} {f : α → Sem β} {S : Hp} {Q : β → Hp → Prop}, readv P Hp.none s = some a → (wpH P (s.bind f) S Q ↔ wpH P (f a) S Q) := by
  induction s with
  | pure b => intro a f S Q h; simp only [readv, Option.some.injEq] at h; subst h; exact Iff.rfl
  | program k ih => intro a f S Q h; exact ih _ h
  | mark m k ih => intro a f S Q h; exact ih h
  | _ => intro a f S Q h; simp [readv, Hp.none, Hp.cell?] at h
theorem wpH_pre' {α β : Type} {s : Sem α} {a : α} {f : α → Sem β} {S : Hp} {Q : β → Hp → Prop} (h : readv P Hp.none s = some a) : (wpH P (s >>= f) S Q ↔ wpH P (f a) S Q) := wpH_pre s h
theorem bind_assoc' {α β γ : Type} (s : Sem α) (f : α → Sem β) (g : β → Sem γ) : (s >>= f) >>= g = s >>= fun a => f a >>= g := by
  show (s.bind f).bind g = s.bind fun a => (f a).bind g
  induction s with
  | pure a => rfl
  | load m a k ih => simp only [Sem.bind, ih]
  | store m a v k ih => simp only [Sem.bind, ih]
  | new o k ih => simp only [Sem.bind, ih]
  | shape r k ih => simp only [Sem.bind, ih]
  | freeze a n k ih => simp only [Sem.bind, ih]
  | frozen a k ih => simp only [Sem.bind]; congr 1; funext x; exact ih x
  | getObj r k ih => simp only [Sem.bind, ih]
  | setObj r o k ih => simp only [Sem.bind, ih]
  | choose q k ih => simp only [Sem.bind, ih]
  | sys c k ih => simp only [Sem.bind, ih]
  | program k ih => simp only [Sem.bind, ih]
  | mark m k ih => simp only [Sem.bind, ih]
  | halt x => rfl
/-- A row is laid behind what only asks for types. -/
theorem alloc_row {α : Type} {pre : Sem α} {a : α} {elem : TypeId} {cells : Array Value} {g : Nat → Value} {s : Sem Next} (hpre : readv P Hp.none pre = some a) (f : α → Sem Next) (hs : s = pre >>= f)
    (hf : ∀ (S : Hp) (Q : Next → Hp → Prop), wpH P (f a) S Q ↔ ∀ n, S n = none → Q (.value (g n)) (S.set n (.cells cells elem (0, 0)))) : AllocIs P s (fun _ => .cells cells elem (0, 0)) (fun _ n => g n) := by
  intro S Q
  rw [hs, wpH_pre' hpre, hf]
  exact ⟨fun h _ n hn => h n hn, fun h n hn => h 0 n hn⟩
theorem snd2_of {r : RO} (h : ∀ (ρ : Operand → Value) (S : Hp) (K : Value → Hp → Prop), allocR r ρ S K → ∃ (ob : Obj) (g : Nat → Value), AllocIs P (execOp ρ o) (fun _ => ob) (fun _ n => g n) ∧ ∀ n, S n = none → K (g n) (S.set n ob)) : Snd2 P o r := by
  intro ρ S K hr
  obtain ⟨ob, g, ha, hk⟩ := h ρ S K hr
  exact ⟨⟨_, _, ha⟩, (ha _ _).2 fun _ n hn => ⟨_, rfl, hk n hn⟩⟩
theorem wpH_newRow {elem : TypeId} {cells : Array Value} {h : Addr → Value} {S : Hp} {Q : Next → Hp → Prop} : wpH P (do pure (Next.value (h (← newRow elem cells)))) S Q ↔ ∀ n, S n = none → Q (.value (h ⟨n, 0, none⟩)) (S.set n (.cells cells elem (0, 0))) := Iff.rfl
theorem alloc_sound {t : TypeId} {z : Value} (ho : o.op = .alloc t) (hz : readv P Hp.none (zeroValue t) = some z) : Snd2 P o (.alloc t z.cells.toList) := by
  refine snd2_of fun ρ S K hr => ⟨.cells z.cells t (0, 0), fun n => .pointer (some ⟨n, 0, none⟩), ?_, fun n hn => by simpa [allocR, newC] using hr n hn⟩
  simp only [execOp, ho, Instr.alloc]
  refine alloc_row hz (fun z => (do pure (Next.value (.pointer (some (← newVar t z)))))) (by rw [bind_assoc']; rfl) fun S Q => ?_
  exact wpH_newRow (h := fun a => .pointer (some a))
theorem box_sound {t : TypeId} {x : Operand} (ho : o.op = .box t x) : Snd2 P o (.box t x) := by
  refine snd2_of fun ρ S K hr => ⟨.cells (ρ x).cells t (0, 0), fun n => .pointer (some ⟨n, 0, none⟩), ?_, fun n hn => by simpa [allocR, newC] using hr n hn⟩
  simp only [execOp, ho, Instr.box]
  refine alloc_row (pre := pure ()) (a := ()) rfl (fun _ => (do pure (Next.value (.pointer (some (← newVar t (ρ x))))))) rfl fun S Q => ?_
  exact wpH_newRow (h := fun a => .pointer (some a))
theorem mkmap_sound {t : TypeId} (ho : o.op = .makeMap t none) : Snd2 P o .mkmap := by
  refine snd2_of fun ρ S K hr => ⟨.map #[] 0, fun n => .map (some n), ?_, fun n hn => by simpa [allocR, newC] using hr n hn⟩
  simp only [execOp, ho]
  intro S Q
  exact ⟨fun h _ n hn => h n hn, fun h n hn => h 0 n hn⟩

/-! ### stores and calls -/
theorem setCell_oput {c : Array Value} {e : TypeId} {f : Nat × Nat} {b off : Nat} {v : Value} : oput (.cells c e f) ⟨b, off, none⟩ v = .cells (c.setIfInBounds off v) e f := rfl
theorem addr_add (b off i : Nat) : (⟨b, off, none⟩ : Addr).add i = ⟨b, off + i, none⟩ := by unfold Addr.add; split <;> simp_all
theorem wp_storeCells {b off : Nat} : ∀ (vs : List Value) (i : Nat) {S : Hp} {Q : Unit → Hp → Prop} {c : Array Value} {e : TypeId} {lo hi : Nat}, (∀ v, v ∈ vs → vplain v = true) → S b = some (.cells c e (lo, hi)) → off + i + vs.length ≤ c.size → (hi ≤ off ∨ off + i + vs.length ≤ lo) →
    Q () (S.set b (.cells (putAt c.toList (off + i) vs).toArray e (lo, hi))) → wpH P (storeCells ⟨b, off, none⟩ vs i) S Q := by
  intro vs
  induction vs with
  | nil =>
    intro i S Q c e lo hi _ hs _ _ h
    have : S.set b (.cells (putAt c.toList (off + i) []).toArray e (lo, hi)) = S := by
      funext m
      unfold Hp.set
      split
      · rename_i em; rw [em, hs]; simp [putAt]
      · rfl
    rw [this] at h
    exact h
  | cons v vs ih =>
    intro i S Q c e lo hi hv hs hb hf h
    simp only [List.length_cons] at hb hf
    unfold storeCells
    refine wpH_bind' _ _ ?_
    unfold store
    rw [addr_add]
    refine ⟨hv v List.mem_cons_self, .cells c e (lo, hi), c[off + i]'(by omega), hs, by simp only [ocell]; exact Array.getElem?_eq_getElem (by omega), ?_, ?_⟩
    · simp only [ofrozen, Bool.and_eq_false_iff, decide_eq_false_iff_not]
      omega
    · have hset : S.set b (.cells (c.setIfInBounds (off + i) v) e (lo, hi)) b = some (.cells (c.setIfInBounds (off + i) v) e (lo, hi)) := set_same _
      refine ih (i + 1) (fun u hu => hv u (List.mem_cons_of_mem _ hu)) hset (by simp; omega) (by omega) ?_
      have e1 : ∀ (x y : Obj), (S.set b x).set b y = S.set b y := by
        intro x y
        funext m
        unfold Hp.set
        split <;> rfl
      rw [e1]
      simpa [putAt, Nat.add_assoc] using h
theorem st_sound {t : TypeId} {x v : Operand} {n : Nat} (ho : o.op = .store t x v) (hs : readv P Hp.none (sizeOf t) = some n) : Snd3 P o (.st n x v) := by
  intro ρ S K h
  simp only [heavyR, stC] at h
  simp only [execOp, ho]
  split at h
  · rename_i b off e
    obtain ⟨hn, hp, ob, hb, ⟨c, e', lo, hi, rfl, h1, h2⟩, h⟩ := h
    rw [e]
    refine wpH_bind' _ _ ?_
    unfold Instr.storeAt Instr.sureAddr
    refine wpH_bind' _ _ ?_
    show wpH P (storeVar t ⟨b, off, none⟩ (ρ v)) S _
    unfold storeVar
    rw [wpH_pre' hs]
    simp only [hn]
    rw [if_neg (by simp)]
    refine wp_storeCells _ 0 (fun u hu => ?_) hb (by simpa [hn] using h1) (by simpa [hn] using h2) ?_
    · rw [Array.all_eq_true_iff_forall_mem] at hp; exact hp u (by simpa using hu)
    · refine wpH_pure' ?_
      show K undef _
      simpa [oputs] using h
  · exact h.elim

theorem enter_wp {f : FuncId} {fn : Func} {args : Array Value} {S : Hp} {K : Value → Hp → Prop} (hf : P.funcs[f]? = some fn) (hb : fn.body.isSome = true) (hn : (fn.name == "runtime.NumGoroutine") = false) (h : callWp P f args S K) : wpH P (callFunc f args) S (opPost P K) := by
  unfold callFunc program
  show wpH P (match P.funcs[f]? with | none => _ | some fn => _) S _
  rw [hf]
  simp only [hn]
  have : fn.body.isNone = false := by cases hbb : fn.body <;> simp [hbb] at hb ⊢
  rw [this]
  exact h
theorem callC_wp {f : FuncId} {args : List Value} {rk : RK} {S : Hp} {K : Value → Hp → Prop} (h : callC P f args rk S K) : callWp P f args.toArray S K := by
  unfold callC at h
  refine callWp_mono h ?_
  intro v S' ht
  obtain ⟨u, rfl, hk⟩ := typR_some rk ht
  exact hk
theorem call_sound {f : FuncId} {fn : Func} {args : Array Operand} {ats : Array TypeId} {rk : RK} (ho : o.op = .call { callee := .value (.func f), args := args, argTypes := ats }) (hf : P.funcs[f]? = some fn) (hb : fn.body.isSome = true) (hn : (fn.name == "runtime.NumGoroutine") = false) :
    ∀ (ρ : Operand → Value) (S : Hp) (K : Value → Hp → Prop), ρ (.func f) = .func (.func f) #[] #[] → heavyR P (.call f args.toList rk) ρ S K → wpH P (execOp ρ o) S (opPost P K) := by
  intro ρ S K hfn h
  simp only [heavyR] at h
  simp only [execOp, ho, resolve, hfn, Deferred.ofValue]
  show wpH P (invoke (.fn (.func f) #[]) (#[] ++ args.map ρ)) S _
  show wpH P (callFunc f ((#[] ++ args.map ρ) ++ #[])) S _
  have e : (#[] ++ args.map ρ) ++ (#[] : Array Value) = (args.toList.map ρ).toArray := Array.ext' (by simp)
  rw [e]
  exact enter_wp hf hb hn (callC_wp h)
theorem typR_wp {rk : RK} {K : Value → Hp → Prop} : ∀ v S', (typR rk fun u => v = u ∧ K u S') → K v S' := by
  intro v S' ht
  obtain ⟨u, rfl, hk⟩ := typR_some rk ht
  exact hk
theorem invoke_wp {f : Fn} {first cap : Array Value} {args : List Value} {S : Hp} {K : Value → Hp → Prop} (h : callVal P (.func f first cap) args S K) : wpH P (invoke (.fn f cap) (first ++ args.toArray)) S (opPost P K) := by
  unfold callVal at h
  split at h
  · rename_i f first cap e
    cases e
    obtain ⟨⟨fn, hf, hb, hn⟩, h⟩ := h
    show wpH P (callFunc f ((first ++ args.toArray) ++ cap)) S _
    have e : (first ++ args.toArray) ++ cap = (first.toList ++ args ++ cap.toList).toArray := Array.ext' (by simp)
    rw [e]
    exact enter_wp hf hb hn h
  · rename_i l first cap e
    cases e
    obtain ⟨rfl, rfl, r, hl, hs, h⟩ := h
    show wpH P (Instr.yield l (#[] ++ args.toArray)) S _
    have e : (#[] ++ args.toArray : Array Value) = args.toArray := by simp
    rw [e]
    unfold Instr.yield Instr.getLoop
    refine wpH_bind _ _ (wpH_bind _ _ ?_)
    refine ⟨_, hl, rfl, ?_⟩
    show wpH P (if args.toArray.size ≠ r.params.size then _ else _) S _
    rw [if_neg (by simpa using hs)]
    exact h
  · exact h.elim
theorem callv_sound {g : Operand} {args : Array Operand} {ats : Array TypeId} {rk : RK} (ho : o.op = .call { callee := .value g, args := args, argTypes := ats }) : Snd3 P o (.callv g args.toList rk) := by
  intro ρ S K h
  simp only [heavyR, callvC] at h
  have h := callVal_mono h typR_wp
  have : ∃ f first cap, ρ g = .func f first cap := by
    unfold callVal at h
    split at h
    · rename_i e; exact ⟨_, _, _, e⟩
    · rename_i e; exact ⟨_, _, _, e⟩
    · exact h.elim
  obtain ⟨f, first, cap, e⟩ := this
  rw [e] at h
  simp only [execOp, ho, resolve, e, Deferred.ofValue]
  show wpH P (invoke (.fn f cap) (first ++ args.map ρ)) S _
  have e2 : args.map ρ = (args.toList.map ρ).toArray := Array.ext' (by simp)
  rw [e2]
  exact invoke_wp h
end
end Go.PH
