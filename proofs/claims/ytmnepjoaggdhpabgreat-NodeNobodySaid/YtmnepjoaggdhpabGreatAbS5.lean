/-
  EACH OPERATION OF THE ABSTRACT MACHINE IS ONE OF THE MODEL's (boxes, structs, slices made; loads, stores).
-/
import Derived.Test.YtmnepjoaggdhpabGreatAbS4
set_option linter.unusedVariables false
namespace Go.Ab

def isTup : AV → Bool
  | .tup _ => true
  | _ => false

theorem not_tup {a : AV} (h : isTup a = false) : ∀ l, a ≠ .tup l := by
  intro l e; subst e; cases h

/-! ### Parts of a literal -/

def PsRel (ρ : Inj) : List (Nat × AV) → List (Nat × Value) → Prop
  | [], l => l = []
  | (i, a) :: as, l => ∃ v l', l = (i, v) :: l' ∧ VRel ρ a v ∧ isTup a = false ∧ PsRel ρ as l'

theorem fold_set (off : Nat) : ∀ (l : List Value) (j : Nat) (c : Array Value), off + j + l.length ≤ c.size →
    ((l.zipIdx j).foldl (fun (cs : Array Value) (p : Value × Nat) => cs.setIfInBounds (off + p.2) p.1) c).size = c.size ∧
    ∀ k, ((l.zipIdx j).foldl (fun (cs : Array Value) (p : Value × Nat) => cs.setIfInBounds (off + p.2) p.1) c)[k]? = if off + j ≤ k ∧ k < off + j + l.length then l[k - (off + j)]? else c[k]?
  | [], j, c, _ => ⟨rfl, fun k => by rw [if_neg (by simp only [List.length_nil]; omega)]; rfl⟩
  | v :: vs, j, c, h => by
    simp only [List.length_cons] at h
    simp only [List.zipIdx_cons, List.foldl_cons]
    obtain ⟨h1, h2⟩ := fold_set off vs (j + 1) (c.setIfInBounds (off + j) v) (by rw [Array.size_setIfInBounds]; omega)
    refine ⟨by rw [h1, Array.size_setIfInBounds], fun k => ?_⟩
    rw [h2 k]
    by_cases e1 : off + (j + 1) ≤ k ∧ k < off + (j + 1) + vs.length
    · rw [if_pos e1, if_pos (by simp only [List.length_cons]; omega)]
      have : k - (off + j) = (k - (off + (j + 1))) + 1 := by omega
      rw [this]; simp
    · rw [if_neg e1]
      by_cases e2 : k = off + j
      · subst e2
        rw [if_pos (by simp only [List.length_cons]; omega)]
        have : off + j < c.size := by omega
        simp [this]
      · rw [if_neg (by simp only [List.length_cons]; omega)]
        have : off + j ≠ k := fun e => e2 e.symm
        rw [Array.getElem?_setIfInBounds_ne this]

theorem fold_toList (off : Nat) (vs c : Array Value) (h : off + vs.size ≤ c.size) :
    (vs.zipIdx.foldl (fun (cs : Array Value) (x : Value × Nat) => match x with | (c, j) => cs.setIfInBounds (off + j) c) c).toList = c.toList.take off ++ vs.toList ++ c.toList.drop (off + vs.size) := by
  have e : (vs.zipIdx.foldl (fun (cs : Array Value) (x : Value × Nat) => match x with | (c, j) => cs.setIfInBounds (off + j) c) c) =
      ((vs.toList.zipIdx 0).foldl (fun (cs : Array Value) (p : Value × Nat) => cs.setIfInBounds (off + p.2) p.1) c) := by
    rw [← Array.foldl_toList, Array.toList_zipIdx]
  rw [e]
  obtain ⟨h1, h2⟩ := fold_set off vs.toList 0 c (by simpa using h)
  apply List.ext_getElem?
  intro k
  have := h2 k
  rw [toList_get, this]
  simp only [Nat.add_zero, Array.length_toList]
  by_cases e1 : off ≤ k ∧ k < off + vs.size
  · rw [if_pos e1, List.append_assoc, List.getElem?_append_right (by simp; omega), List.getElem?_append_left (by simp; omega)]
    congr 1; simp; omega
  · rw [if_neg e1]
    by_cases e2 : k < off
    · rw [List.append_assoc, List.getElem?_append_left (by simp; omega), List.getElem?_take]
      simp [e2]
    · rw [List.getElem?_append_right (by simp; omega), List.getElem?_drop]
      simp
      congr 1; omega

theorem fill_rel {ρ : Inj} {place place' : Nat → Option (Nat × Nat)} (hpl : ∀ i x, place i = some x → place' i = some x) : ∀ {ps : List (Nat × AV)} {vs : List (Nat × Value)} {cells l : List AV} {c : Array Value},
    PsRel ρ ps vs → VsRel ρ cells c.toList → (∀ x ∈ c.toList, x.oneCell' = true) → fillA place cells ps = some l →
    ∃ c', Instr.fill place' c vs = some c' ∧ VsRel ρ l c'.toList ∧ ∀ x ∈ c'.toList, x.oneCell' = true
  | [], vs, cells, l, c, hp, hc, ho, h => by
    simp only [PsRel] at hp; subst hp
    simp [fillA] at h; subst h
    exact ⟨c, rfl, hc, ho⟩
  | (i, a) :: ps, vs, cells, l, c, hp, hc, ho, h => by
    simp only [PsRel] at hp
    obtain ⟨v, vs', rfl, hv, ht, hps⟩ := hp
    simp only [fillA] at h
    split at h
    · cases h
    · rename_i off size hpi
      split at h
      · rename_i h1 h2
        have e1 := Nat.eq_of_beq_eq_true h1
        have e2 := Nat.le_of_ble_eq_true h2
        obtain ⟨hcr, hco⟩ := cells_rel hv (not_tup ht)
        have hl1 := hcr.length
        have hl2 := hc.length
        have hsz : v.cells.size = size := by
          have : v.cells.toList.length = v.cells.size := Array.length_toList
          omega
        have hcs : c.size = cells.length := by
          have : c.toList.length = c.size := Array.length_toList
          omega
        simp only [Instr.fill, hpl i _ hpi]
        rw [if_neg (by simp [hsz]; omega)]
        have htl := fold_toList off v.cells c (by omega)
        refine fill_rel hpl hps ?_ ?_ h
        · rw [htl]
          unfold overwrite
          rw [← hl1, Array.length_toList]
          exact ((hc.take off).append hcr).append (hc.drop _)
        · rw [htl]
          intro x hx
          rcases List.mem_append.1 hx with hx | hx
          · rcases List.mem_append.1 hx with hx | hx
            · exact ho x (List.mem_of_mem_take hx)
            · exact hco x hx
          · exact ho x (List.mem_of_mem_drop hx)
      · cases h

section
variable {T : Tab} {base : Nat → Prop} {ρ : Inj} {env : Tr AV} {hp hp' : Hp} {w : World} {ev : Operand → Value} {o : Oper} {v : AV}

theorem parts_rel : ∀ {l : List (Nat × Operand)} {ps : List (Nat × AV)}, Ops ρ env ev (l.map (·.2)) → evalParts l env = some ps → PsRel ρ ps (l.map fun p => (p.1, ev p.2))
  | [], ps, _, h => by simp [evalParts] at h; subst h; simp [PsRel]
  | (i, x) :: xs, ps, hev, h => by
    simp only [evalParts] at h
    split at h
    · cases h
    · rename_i a hnt ha
      split at h
      · rename_i as has
        simp at h; subst h
        simp only [PsRel, List.map_cons]
        refine ⟨_, _, rfl, hev x (by simp) _ ha, ?_, parts_rel (fun y hy => hev y (by simp at hy ⊢; exact .inr hy)) has⟩
        cases a <;> first | rfl | (rename_i l; exact (hnt l rfl).elim)
      · cases h
    · cases h

theorem box_sound {t : TypeId} {x : Operand} (ho : o.op = .box t x) (hev : Ops ρ env ev [x]) (hH : HRel ρ hp w base)
    (h : opBox t x T env hp = some (.val v hp')) : Res T base ρ hp w (execOp ev o) v hp' := by
  unfold opBox at h
  split at h
  · cases h
  · rename_i a hnt ha
    rw [newCells_eq] at h
    simp only [Option.some.injEq, ARes.val.injEq] at h
    obtain ⟨rfl, rfl⟩ := h
    obtain ⟨hr, hc⟩ := cells_rel (hev x (by simp) _ ha) hnt
    have hlen := hr.length
    have htk : (ev x).cells.toList.take a.cells.length = (ev x).cells.toList := List.take_of_length_le (by omega)
    obtain ⟨h1, h2, h3⟩ := hH.newCells (st := .any) (w' := { w with heap := w.heap.push (.cells (ev x).cells t) }) (l := a.cells) rfl (by rw [htk]; exact hr) (by rw [htk]; exact hc)
    refine ⟨_, .value (.pointer (some ⟨w.heap.size, 0, none⟩)), _, _, ?_, rfl, h2, h1, ?_, h3⟩
    · simp [execOp, ho, Instr.box, newVar, newRow]
    · simp only [VRel]; exact ⟨_, Inj.upd_self _ _ _, by simp⟩
  · cases h

theorem map_pairs {α β : Type} (f : α → β) (l : Array (Nat × α)) : (l.map fun (i, x) => (i, f x)).toList = l.toList.map fun p => (p.1, f p.2) := by
  simp [Array.toList_map]

theorem sizes_run (hT : TabOk T) : ∀ (l : List Field), fieldsOk T l = true →
    ∃ pl : List (Nat × Nat), (l.mapM fun f => Prod.mk f.offset <$> sizeOf f.type : Sem (List (Nat × Nat))).run T.P w = .ok pl w ∧ ∀ (i : Nat) (f : Field) (ti : TyI), l[i]? = some f → T.tys.get f.type = some ti → pl[i]? = some (f.offset, ti.size)
  | [], _ => ⟨[], by simp, fun i f ti e => by simp at e⟩
  | f :: fs, h => by
    unfold fieldsOk at h
    split at h
    · rename_i tf htf
      obtain ⟨pl, h1, h2⟩ := sizes_run hT fs h
      have hs := (hT.ty _ tf htf).run_size w
      refine ⟨(f.offset, tf.size) :: pl, by simp [hs, h1], fun i g ti e hg => ?_⟩
      cases i with
      | zero => simp at e; subst e; rw [htf] at hg; cases hg; rfl
      | succ i => simp at e ⊢; exact h2 i g ti e hg
    · cases h

theorem places_run {fields : Array Field} (hT : TabOk T) (h : fieldsOk T fields.toList = true) :
    ∃ pl : Array (Nat × Nat), (Array.mapM (fun f => Prod.mk f.offset <$> sizeOf f.type) fields : Sem (Array (Nat × Nat))).run T.P w = .ok pl w ∧ ∀ i x, placeOf T fields i = some x → pl[i]? = some x := by
  obtain ⟨pl, h1, h2⟩ := sizes_run (w := w) hT fields.toList h
  refine ⟨pl.toArray, by rw [Array.mapM_eq_mapM_toList]; simp [h1], fun i x hx => ?_⟩
  unfold placeOf at hx
  split at hx
  · rename_i f hf
    split at hx
    · rename_i ti hti
      simp at hx; subst hx
      simpa using h2 i f ti hf hti
    · cases hx
  · cases hx

theorem build_sound {t : TypeId} {parts : Array (Nat × Operand)} (hT : TabOk T) (ho : o.op = .build t parts) (hev : Ops ρ env ev (parts.toList.map (·.2))) (hH : HRel ρ hp w base)
    (h : opBuild t parts T env hp = some (.val v hp')) : Res T base ρ hp w (execOp ev o) v hp' := by
  unfold opBuild at h
  split at h
  · cases h
  · rename_i ti hti
    split at h
    · cases h
    · rename_i z hz
      split at h
      · cases h
      · rename_i ps hps
        have hP := parts_rel hev hps
        have hu := (hT.ty t ti hti).run_und w
        obtain ⟨zv, hzv, hzr, hzc⟩ := (hT.ty t ti hti).run_zero w hz ρ
        split at h
        · rename_i fields hund
          rw [hund] at hu
          split at h
          · rename_i cs hfo hcs
            simp only [Option.some.injEq, ARes.val.injEq] at h
            obtain ⟨rfl, rfl⟩ := h
            obtain ⟨pl, hpl1, hpl2⟩ := places_run (w := w) hT hfo
            obtain ⟨c', hf, hr, hc⟩ := fill_rel (place' := (pl[·]?)) hpl2 hP hzr hzc hcs
            refine .pure hH (v' := .agg c') ?_ (by simp only [VRel]; exact ⟨c', rfl, hr, hc⟩)
            simp [execOp, ho, Instr.build, hzv, hu, hpl1, hf]
          · cases h
        · rename_i n e hund
          rw [hund] at hu
          split at h
          · rename_i te hte
            split at h
            · rename_i cs hcs
              simp only [Option.some.injEq, ARes.val.injEq] at h
              obtain ⟨rfl, rfl⟩ := h
              have hs := (hT.ty e te hte).run_size w
              obtain ⟨c', hf, hr, hc⟩ := fill_rel (place' := fun i => some (i * te.size, te.size)) (fun i x h => h) hP hzr hzc hcs
              refine .pure hH (v' := .agg c') ?_ (by simp only [VRel]; exact ⟨c', rfl, hr, hc⟩)
              simp [execOp, ho, Instr.build, hzv, hu, hs, hf]
            · cases h
          · cases h
        · cases h

end
end Go.Ab
