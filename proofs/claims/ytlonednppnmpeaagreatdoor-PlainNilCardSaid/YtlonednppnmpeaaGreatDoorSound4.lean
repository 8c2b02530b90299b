/- PH: struct and slice literals. -/
import Derived.Test.YtlonednppnmpeaaGreatDoorSound3
set_option linter.all false
set_option linter.unusedSimpArgs false
namespace Go.PH
open Go
section
variable {P : Program} {o : Oper}
def partsAt (place : Nat → Option (Nat × Nat)) (ps : List (Nat × Operand)) : Option (List (Nat × Nat × Operand)) :=
  match ps with
  | [] => some []
  | (i, x) :: r => match place i, partsAt place r with
    | some (off, size), some l => some ((off, size, x) :: l)
    | _, _ => none
theorem partsAt_spec {place : Nat → Option (Nat × Nat)} {ρ : Operand → Value} : ∀ {ps : List (Nat × Operand)} {q : List (Nat × Nat × Operand)}, partsAt place ps = some q →
    (q.map (fun p => (p.1, p.2.1, ρ p.2.2))).map (fun p => (p.1, p.2.1)) = (ps.map (fun p => (p.1, ρ p.2))).filterMap (fun p => place p.1) ∧ (q.map (fun p => (p.1, p.2.1, ρ p.2.2))).map (fun p => p.2.2) = (ps.map (fun p => (p.1, ρ p.2))).map (·.2) ∧ q.length = ps.length := by
  intro ps
  induction ps with
  | nil => intro q h; simp only [partsAt, Option.some.injEq] at h; subst h; exact ⟨rfl, rfl, rfl⟩
  | cons p ps ih =>
    intro q h
    obtain ⟨i, x⟩ := p
    simp only [partsAt] at h
    split at h
    · rename_i off size l h1 h2
      simp only [Option.some.injEq] at h
      subst h
      obtain ⟨e1, e2, e3⟩ := ih h2
      refine ⟨?_, ?_, by simp [e3]⟩
      · simp only [List.map_cons, List.filterMap_cons, h1]
        rw [e1]
      · simp only [List.map_cons]
        rw [e2]
    · cases h
instance : LawfulMonad Sem := LawfulMonad.mk' Sem
  (id_map := fun s => by
    show s.bind (fun a => .pure (id a)) = s
    induction s with
    | pure a => rfl
    | load m a k ih => simp only [Sem.bind]; congr 1; funext v; exact ih v
    | store m a v k ih => simp only [Sem.bind]; congr 1
    | new o k ih => simp only [Sem.bind]; congr 1; funext v; exact ih v
    | shape r k ih => simp only [Sem.bind]; congr 1; funext v; exact ih v
    | freeze a n k ih => simp only [Sem.bind]; congr 1
    | frozen a k ih => simp only [Sem.bind]; congr 1; funext v; exact ih v
    | getObj r k ih => simp only [Sem.bind]; congr 1; funext v; exact ih v
    | setObj r o k ih => simp only [Sem.bind]; congr 1
    | choose q k ih => simp only [Sem.bind]; congr 1; funext v; exact ih v
    | sys c k ih => simp only [Sem.bind]; congr 1; funext v; exact ih v
    | program k ih => simp only [Sem.bind]; congr 1; funext v; exact ih v
    | mark m k ih => simp only [Sem.bind]; congr 1
    | halt x => rfl)
  (pure_bind := fun _ _ => rfl)
  (bind_assoc := fun s f g => bind_assoc' s f g)
theorem mapM_places {S : Hp} : ∀ (fs : List Field), (∀ f, f ∈ fs → ∃ i, P.info? f.type = some i) → readv P S (fs.mapM fun f => do pure (f.offset, ← sizeOf f.type)) = some (fs.map fun f => (f.offset, ((P.info? f.type).map (·.size)).getD 0)) := by
  intro fs
  induction fs with
  | nil => intro _; rfl
  | cons f fs ih =>
    intro h
    obtain ⟨i, hi⟩ := h f List.mem_cons_self
    have := ih fun g hg => h g (List.mem_cons_of_mem _ hg)
    rw [List.mapM_cons]
    simp only [readv_bind', readv_sizeOf hi, Option.bind_some, readv_pure', this]
    simp [hi]
def placesOf (P : Program) (fs : List Field) : List (Nat × Nat) := fs.map fun f => (f.offset, ((P.info? f.type).map (·.size)).getD 0)
theorem build_sound {t : TypeId} {ps : Array (Nat × Operand)} {fs : Array Field} {z : Value} {q : List (Nat × Nat × Operand)} (ho : o.op = .build t ps) (hu : P.underlying t = some (.struct fs)) (hz : readv P Hp.none (zeroValue t) = some z)
    (hi : ∀ f, f ∈ fs.toList → ∃ i, P.info? f.type = some i) (hq : partsAt (fun i => (placesOf P fs.toList)[i]?) ps.toList = some q) : Snd0 P o (.build z.cells.toList q) := by
  intro ρ K h
  simp only [pureR] at h
  obtain ⟨e1, e2, e3⟩ := partsAt_spec (ρ := ρ) hq
  obtain ⟨l, hl, hk⟩ := fill_ok (fun i => (placesOf P fs.toList)[i]?) (ps.toList.map (fun p => (p.1, ρ p.2))) _ _ _ e1 e2 (by simp [e3]) h
  simp only [execOp, ho]
  refine ⟨_, readv_val ?_, hk⟩
  unfold Instr.build
  rw [readv_bind', hz]
  simp only [Option.bind_some]
  rw [readv_bind', readv_underlying hu]
  simp only [Option.bind_some]
  rw [readv_bind', Array.mapM_eq_mapM_toList]
  have em : ∀ g : Field → Sem (Nat × Nat), readv P Hp.none (List.toArray <$> fs.toList.mapM g) = (readv P Hp.none (fs.toList.mapM g)).bind fun l => some l.toArray := by
    intro g
    rw [map_eq_pure_bind, readv_bind']
    rfl
  rw [em, mapM_places _ hi]
  simp only [Option.bind_some]
  have e4 : (fun i : Nat => ((fs.toList.map fun f => (f.offset, ((P.info? f.type).map (·.size)).getD 0)).toArray)[i]?) = fun i : Nat => (placesOf P fs.toList)[i]? := by
    funext i
    simp [placesOf]
  have e5 : (ps.map fun x => (x.1, ρ x.2)).toList = ps.toList.map (fun p => (p.1, ρ p.2)) := by simp
  rw [e4, e5]
  have e6 : z.cells.toList.toArray = z.cells := by simp
  rw [← e6, hl]
  rfl
theorem bslice_sound {t elem : TypeId} {n : Nat} {ps : Array (Nat × Operand)} {i : TypeInfo} {z : Value} {q : List (Nat × Nat × Operand)} (ho : o.op = .buildSlice t n ps) (hu : P.underlying t = some (.slice elem)) (hi : P.info? elem = some i) (hz : i.zero = some z) (hzs : z.cells.size = i.size)
    (hb : n * i.size ≤ 16777216) (hq : partsAt (fun k => some (k * i.size, i.size)) ps.toList = some q) : Snd2 P o (.bslice elem n (zeros z.cells.toList n) q) := by
  refine snd2_of fun ρ S K h => ?_
  simp only [allocR] at h
  obtain ⟨e1, e2, e3⟩ := partsAt_spec (ρ := ρ) hq
  obtain ⟨l, hl, hk⟩ := fill_ok (fun k => some (k * i.size, i.size)) (ps.toList.map (fun p => (p.1, ρ p.2))) _ _ _ e1 e2 (by simp [e3]) h
  refine ⟨.cells l.toArray elem (0, 0), fun r => .slice (some ⟨r, 0, none⟩) n n, ?_, fun r hr => hk r hr⟩
  simp only [execOp, ho]
  intro S Q
  unfold Instr.buildSlice
  rw [bind_assoc', wpH_pre' (readv_underlying hu)]
  simp only
  rw [bind_assoc', wpH_pre' (readv_sizeOf hi)]
  have h24 : ¬ n * i.size > 2 ^ 24 := by have : (2 : Nat) ^ 24 = 16777216 := by decide
                                         omega
  rw [if_neg h24]
  have e5 : (ps.map fun x => (x.1, ρ x.2)).toList = ps.toList.map (fun p => (p.1, ρ p.2)) := by simp
  have hfill : ∀ zr : Array Value, zr = (if n * i.size = 0 then #[] else z.cells) → (Array.range (n * i.size)).map (fun k => zr[k % zr.size]!) = (zeros z.cells.toList n).toArray := by
    intro zr ezr
    by_cases h0 : n * i.size = 0
    · rw [h0]
      apply Array.ext'
      simp
      refine List.eq_nil_of_length_eq_zero ?_
      rw [zeros_length]
      simpa [hzs] using h0
    · rw [if_neg h0] at ezr
      subst ezr
      have := zeroCells_eq z.cells.toList n
      unfold Builtin.zeroCells at this
      simpa [hzs] using this
  by_cases h0 : n * i.size = 0
  · rw [if_pos h0, bind_assoc', wpH_pre' (a := #[]) rfl]
    rw [hfill _ (by rw [if_pos h0]), e5, hl]
    exact ⟨fun h _ m hm => h m hm, fun h m hm => h 0 m hm⟩
  · rw [if_neg h0, bind_assoc', wpH_pre' (readv_zeroValue hi hz), bind_assoc', wpH_pre' (a := z.cells) rfl]
    rw [hfill _ (by rw [if_neg h0]), e5, hl]
    exact ⟨fun h _ m hm => h m hm, fun h m hm => h 0 m hm⟩
end
end Go.PH
