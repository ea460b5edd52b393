/-
  EACH OPERATION OF THE ABSTRACT MACHINE IS ONE OF THE MODEL's (loads, stores, slices made and cut, conversions).
-/
import Derived.Test.YtmnepjoaggdhpabGreatAbS5
set_option linter.unusedVariables false
namespace Go.Ab

theorem VsRel.of_get {ρ : Inj} : ∀ {l : List AV} {vs : List Value}, vs.length = l.length → (∀ (k : Nat) (a : AV), l[k]? = some a → ∃ v, vs[k]? = some v ∧ VRel ρ a v) → VsRel ρ l vs
  | [], vs, hl, _ => by
    cases vs with
    | nil => exact .nil
    | cons => simp at hl
  | a :: as, vs, hl, h => by
    cases vs with
    | nil => simp at hl
    | cons v vs =>
      obtain ⟨v', e, hv⟩ := h 0 a rfl
      simp at e; subst e
      exact .cons hv (VsRel.of_get (by simpa using hl) (fun k b hb => by
        have := h (k + 1) b (by simpa using hb)
        simpa using this))

theorem readCells_run {P : Program} {ρ : Inj} {w : World} {t : Tr AV} {n off : Nat} {l : List AV} {lc : Loc} {N : Nat} {c : Array Value} {el : TypeId} {fr : Nat × Nat} (hw : w.heap[lc.b]? = some (.cells c el fr))
    (hc : ∀ k a, t.get k = some a → k < N ∧ ∃ v, c[lc.o + k]? = some v ∧ VRel ρ a v ∧ v.oneCell' = true) (h : readCells t n off = some l) :
    ∃ vs : List Value, vs.length = n ∧ VsRel ρ l vs ∧ (∀ x ∈ vs, x.oneCell' = true) ∧ (∀ k v, vs[k]? = some v → c[lc.o + off + k]? = some v) ∧ ∀ w' : World, w'.heap[lc.b]? = some (.cells c el fr) → (loadCells ⟨lc.b, lc.o + off, none⟩ n).run P w' = .ok vs.toArray w' := by
  obtain ⟨h1, h2⟩ := readCells_get h
  have key : ∀ k, k < n → ∃ v, c[lc.o + off + k]? = some v ∧ v.oneCell' = true ∧ ∀ a, l[k]? = some a → VRel ρ a v := by
    intro k hk
    have hk' : k < l.length := by omega
    obtain ⟨_, v, hv, hr, ho⟩ := hc (off + k) l[k] (h2 k _ (List.getElem?_eq_getElem hk'))
    rw [← Nat.add_assoc] at hv
    exact ⟨v, hv, ho, fun a ha => by rw [List.getElem?_eq_getElem hk'] at ha; cases ha; exact hr⟩
  let vs : List Value := (List.range n).map fun k => c.getD (lc.o + off + k) undef
  have hvs : ∀ k v, vs[k]? = some v → k < n ∧ c[lc.o + off + k]? = some v := by
    intro k v hv
    simp only [vs, List.getElem?_map] at hv
    by_cases hk : k < n
    · rw [List.getElem?_range hk] at hv
      simp at hv
      obtain ⟨u, hu, _, _⟩ := key k hk
      refine ⟨hk, ?_⟩
      rw [hu]; rw [hu] at hv; simpa using hv
    · rw [List.getElem?_eq_none (by simp; omega)] at hv
      simp at hv
  have hlen : vs.length = n := by simp [vs]
  have hex : ∀ k, k < n → ∃ v, vs[k]? = some v := fun k hk => ⟨vs[k], List.getElem?_eq_getElem (by omega)⟩
  refine ⟨vs, hlen, ?_, ?_, fun k v hv => (hvs k v hv).2, ?_⟩
  · refine VsRel.of_get (by omega) fun k a ha => ?_
    have hk : k < n := by
      have := (List.getElem?_eq_some_iff.1 ha).1
      omega
    obtain ⟨v, hv⟩ := hex k hk
    obtain ⟨u, hu, _, hr⟩ := key k hk
    have e := (hvs k v hv).2
    rw [hu] at e; cases e
    exact ⟨_, hv, hr a ha⟩
  · intro x hx
    obtain ⟨k, hk, e⟩ := List.getElem_of_mem hx
    have hv : vs[k]? = some x := by rw [List.getElem?_eq_getElem hk, e]
    obtain ⟨hkn, hv'⟩ := hvs k x hv
    obtain ⟨u, hu, ho, _⟩ := key k hkn
    rw [hu] at hv'; cases hv'; exact ho
  · intro w' hw'
    have := run_loadCells_list (P := P) w' ⟨lc.b, lc.o + off, none⟩ vs (fun j v hj => by
      rw [addr_add]
      have := (hvs j v hj).2
      simp [World.cell?, hw', this])
    rwa [hlen] at this

theorem rep_get {α : Type} {l : List α} (hl : 0 < l.length) : ∀ (n k : Nat), (rep l n)[k]? = if k < n * l.length then l[k % l.length]? else none
  | 0, k => by simp [rep]
  | n + 1, k => by
    simp only [rep]
    have e : (n + 1) * l.length = n * l.length + l.length := Nat.succ_mul _ _
    by_cases h : k < l.length
    · rw [List.getElem?_append_left h, if_pos (by omega), Nat.mod_eq_of_lt h]
    · rw [List.getElem?_append_right (by omega), rep_get hl n]
      have hm : (k - l.length) % l.length = k % l.length := by
        rw [Nat.mod_eq_sub_mod (a := k) (by omega)]
      by_cases h2 : k - l.length < n * l.length
      · rw [if_pos h2, if_pos (by omega), hm]
      · rw [if_neg h2, if_neg (by omega)]

theorem rep_length {α : Type} (l : List α) : ∀ n, (rep l n).length = n * l.length
  | 0 => by simp [rep]
  | n + 1 => by simp only [rep, List.length_append, rep_length l n, Nat.succ_mul]; omega

theorem range_cells (zero : Array Value) (n : Nat) (hz : 0 < zero.size) : ((Array.range (n * zero.size)).map (fun i => zero[i % zero.size]!)).toList = rep zero.toList n := by
  apply List.ext_getElem?
  intro k
  rw [rep_get (by simpa using hz)]
  simp only [Array.length_toList, Array.toList_map, List.getElem?_map]
  by_cases h : k < n * zero.size
  · rw [if_pos h]
    have hm : k % zero.size < zero.size := Nat.mod_lt _ hz
    simp [h, hm]
  · rw [if_neg h]
    simp; omega

theorem rep_mem {α : Type} {l : List α} {x : α} : ∀ {n : Nat}, x ∈ rep l n → x ∈ l
  | 0, h => by simp [rep] at h
  | n + 1, h => by
    simp only [rep] at h
    rcases List.mem_append.1 h with h | h
    · exact h
    · exact rep_mem h

section
variable {T : Tab} {base : Nat → Prop} {ρ : Inj} {env : Tr AV} {hp hp' : Hp} {w : World} {ev : Operand → Value} {o : Oper} {v : AV}

theorem load_var {t : TypeId} {i : Id} {off : Nat} {n : Nat} {st : Kd} {tr : Tr AV} {ti : TyI} {a : AV} {va : Value} (hT : TabOk T) (hti : T.tys.get t = some ti) (hH : HRel ρ hp w base) (hi : hp.h.get i = some (.cells n st tr))
    (hv : VRel ρ (.ptr i off) va) (h : (if ti.agg = true then (readCells tr ti.size off).map AV.agg else tr.get off) = some a) :
    ∃ ad v', va = .pointer (some ad) ∧ (loadVar t ad).run T.P w = .ok v' w ∧ VRel ρ a v' := by
  obtain ⟨l, c, el, fr, hl, _, h1, h2, h3, h4, h5⟩ := heap_cells hH hi
  simp only [VRel] at hv
  obtain ⟨l', hl', e⟩ := hv
  rw [hl] at hl'; cases hl'
  have hA := (hT.ty t ti hti).run_agg w
  have hS := (hT.ty t ti hti).run_size w
  refine ⟨⟨l.b, l.o + off, none⟩, ?_⟩
  by_cases hagg : ti.agg = true
  · rw [if_pos hagg] at h
    cases hr : readCells tr ti.size off with
    | none => rw [hr] at h; cases h
    | some l0 =>
      rw [hr] at h; simp at h; subst h
      obtain ⟨vs, hl1, hrel, hone, _, hrun⟩ := readCells_run (P := T.P) h1 h5 hr
      refine ⟨.agg vs.toArray, e, by simp [loadVar, hA, hagg, hS, hrun w h1], ?_⟩
      simp only [VRel]
      exact ⟨_, rfl, by simpa using hrel, by simpa using hone⟩
  · rw [if_neg hagg] at h
    obtain ⟨_, u, hu, hr, _⟩ := h5 off a h
    refine ⟨u, e, ?_, hr⟩
    have hagg' : ti.agg = false := by simpa using hagg
    have hcell : w.cell? ⟨l.b, l.o + off, none⟩ = some u := by simp [World.cell?, h1, hu]
    simp [loadVar, hA, hagg', hcell]

theorem load_reads {t : TypeId} {x : Operand} (hT : TabOk T) (ho : o.op = .load t x) (hev : Ops ρ env ev [x]) (hH : HRel ρ hp w base)
    (h : opLoad t x T env hp = some (.val v hp')) : ReadsTo T base ρ hp w (execOp ev o) v hp' := by
  unfold opLoad at h
  split at h
  · rename_i i off hx
    have hx' := hev x (by simp) _ hx
    split at h
    · rename_i n st tr hi
      split at h
      · rename_i ti hti
        split at h
        · rename_i hagg
          split at h
          · rename_i a ha
            simp only [Option.some.injEq, ARes.val.injEq] at h
            obtain ⟨rfl, rfl⟩ := h
            obtain ⟨ad, v', e, hrun, hr⟩ := load_var hT hti hH hi hx' (by rw [hagg]; simpa using ha)
            exact .pure hH (v' := v') (by simp [execOp, ho, Instr.loadAt, e, Instr.sureAddr, hrun]) hr
          · cases h
        · rename_i hagg
          split at h
          · rename_i l hl
            simp only [Option.some.injEq, ARes.val.injEq] at h
            obtain ⟨rfl, rfl⟩ := h
            obtain ⟨ad, v', e, hrun, hr⟩ := load_var (a := .agg l) hT hti hH hi hx' (by rw [hagg, hl]; rfl)
            exact .pure hH (v' := v') (by simp [execOp, ho, Instr.loadAt, e, Instr.sureAddr, hrun]) hr
          · cases h
      · cases h
    · cases h
  · cases h

theorem load_sound {t : TypeId} {x : Operand} (hT : TabOk T) (ho : o.op = .load t x) (hev : Ops ρ env ev [x]) (hH : HRel ρ hp w base)
    (h : opLoad t x T env hp = some (.val v hp')) : Res T base ρ hp w (execOp ev o) v hp' := (load_reads hT ho hev hH h).res

theorem fr_apart {fr : Nat × Nat} {n : Nat} {st : Kd} (h : fr = (0, 0) ∨ (st = .str ∧ fr = (n, n + 1))) : ∀ k, k < n → ¬ (fr.1 ≤ k ∧ k < fr.2) := by
  intro k hk
  rcases h with rfl | ⟨_, rfl⟩ <;> simp <;> omega

/-- Some cells of a block are written over. -/
theorem write_cells {i : Id} {off n : Nat} {st : Kd} {tr : Tr AV} {vs : List AV} {vals : List Value} {l : Loc} (hH : HRel ρ hp w base) (hi : hp.h.get i = some (.cells n st tr)) (hl : ρ i = some l)
    (hr : VsRel ρ vs vals) (hone : ∀ x ∈ vals, x.oneCell' = true) (hle : off + vs.length ≤ n) :
    ∃ w', (storeCells ⟨l.b, l.o + off, none⟩ vals).run T.P w = .ok () w' ∧ HRel ρ ⟨hp.h.put i (.cells n st (putCells tr off vs)), hp.next⟩ w' base ∧ Fr ρ hp w w' := by
  obtain ⟨l', c, el, fr, hl', _, h1, h2, h3, h4, h6, h5⟩ := heap_kind hH hi
  rw [hl] at hl'; cases hl'
  have hlen := hr.length
  have hb := block_lt h1
  obtain ⟨c', hrun, hsz, hget⟩ := storeCells_run (P := T.P) (b := l.b) (o := l.o + off) (el := el) (fr := fr) vals 0 w c h1 (by omega) hone (by rw [h2]; exact fr_apart h4)
  refine ⟨_, hrun, hH.change hi hl (fun b hne => by rw [withBlock_get _ _ _ _ hb, if_neg hne]) (by simp [withBlock]) ?_⟩
  refine ⟨c', el, fr, by rw [withBlock_get _ _ _ _ hb, if_pos rfl], by omega, h3, h4, h6, fun k a hk => ?_⟩
  rw [get_putCells] at hk
  by_cases hin : off ≤ k ∧ k < off + vs.length
  · rw [if_pos hin] at hk
    obtain ⟨u, hu, hru⟩ := hr.get hk
    refine ⟨by omega, u, ?_, hru, hone u (List.mem_of_getElem? hu)⟩
    rw [hget (l.o + k), if_pos (by omega)]
    rw [show l.o + k - (l.o + off + 0) = k - off by omega]; exact hu
  · rw [if_neg hin] at hk
    obtain ⟨hkn, u, hu, hru, hou⟩ := h5 k a hk
    refine ⟨hkn, u, ?_, hru, hou⟩
    rw [hget (l.o + k), if_neg (by omega)]; exact hu

theorem store_sound {t : TypeId} {x y : Operand} (hT : TabOk T) (ho : o.op = .store t x y) (hev : Ops ρ env ev [x, y]) (hH : HRel ρ hp w base)
    (h : opStore t x y T env hp = some (.val v hp')) : Res T base ρ hp w (execOp ev o) v hp' := by
  unfold opStore at h
  split at h
  · rename_i i off hx
    have hx' := hev x (by simp) _ hx
    split at h
    · cases h
    · rename_i a hnt ha
      have ha' := hev y (by simp) _ ha
      split at h
      · rename_i n st tr hi
        split at h
        · rename_i ti hti
          rw [lenK_eq] at h
          split at h
          · rename_i e1 e2
            rw [writeCells_eq, putObj_eq] at h
            simp only [Option.some.injEq, ARes.val.injEq] at h
            obtain ⟨rfl, rfl⟩ := h
            have hsz := Nat.eq_of_beq_eq_true e1
            have hle := Nat.le_of_ble_eq_true e2
            obtain ⟨hcr, hco⟩ := cells_rel ha' hnt
            simp only [VRel] at hx'
            obtain ⟨l, hl, e⟩ := hx'
            obtain ⟨w', hrun, hH', hF⟩ := write_cells (T := T) hH hi hl hcr hco hle
            have hS := (hT.ty t ti hti).run_size w
            have hlen := hcr.length
            have hcs : (ev y).cells.size = ti.size := by
              have : (ev y).cells.toList.length = (ev y).cells.size := Array.length_toList
              omega
            refine ⟨ρ, .skip, undef, w', ?_, rfl, ExtN.refl _ _, hH', ?_, hF⟩
            · simp [execOp, ho, Instr.storeAt, e, Instr.sureAddr, storeVar, hS, hcs, hrun]
            · show VRel ρ (.tup []) (.tuple #[])
              simp [VRel, VsRel]
          · cases h
        · cases h
      · cases h
    · cases h
  · cases h

theorem fillA_length {place : Nat → Option (Nat × Nat)} : ∀ {ps : List (Nat × AV)} {cells l : List AV}, fillA place cells ps = some l → l.length = cells.length
  | [], cells, l, h => by simp [fillA] at h; rw [h]
  | (i, a) :: ps, cells, l, h => by
    simp only [fillA] at h
    split at h
    · cases h
    · rename_i off size hpi
      split at h
      · rename_i h1 h2
        have e1 := Nat.eq_of_beq_eq_true h1
        have e2 := Nat.le_of_ble_eq_true h2
        rw [fillA_length h]
        unfold overwrite
        simp; omega
      · cases h

theorem buildSlice_sound {t : TypeId} {n : Nat} {parts : Array (Nat × Operand)} (hT : TabOk T) (ho : o.op = .buildSlice t n parts) (hev : Ops ρ env ev (parts.toList.map (·.2))) (hH : HRel ρ hp w base)
    (h : opBuildSlice t n parts T env hp = some (.val v hp')) : Res T base ρ hp w (execOp ev o) v hp' := by
  unfold opBuildSlice at h
  split at h
  · cases h
  · rename_i ti hti
    have hu := (hT.ty t ti hti).run_und w
    split at h
    · rename_i e hund
      rw [hund] at hu
      split at h
      · cases h
      · rename_i te hte
        split at h
        · rename_i z hz hle
          split at h
          · rename_i ps e1 e2 hps
            split at h
            · rename_i cs hcs
              rw [newCells_eq] at h
              simp only [Option.some.injEq, ARes.val.injEq] at h
              obtain ⟨rfl, rfl⟩ := h
              have hP := parts_rel hev hps
              have hS := (hT.ty e te hte).run_size w
              obtain ⟨zv, hzv, hzr, hzc⟩ := (hT.ty e te hte).run_zero w hz ρ
              have hle' := Nat.le_of_ble_eq_true hle
              have hzl := Nat.eq_of_beq_eq_true e1
              have hne : te.size ≠ 0 := by intro h0; rw [h0] at e2; cases e2
              have hzlen := hzr.length
              have hzs : zv.cells.size = te.size := by
                have : zv.cells.toList.length = zv.cells.size := Array.length_toList
                omega
              obtain ⟨c0, hc0, hrun0⟩ : ∃ c0 : Array Value, c0.toList = rep zv.cells.toList n ∧ (n = 0 → c0 = #[]) ∧ (n ≠ 0 → c0 = (Array.range (n * te.size)).map (fun i => zv.cells[i % zv.cells.size]!)) := by
                by_cases hn : n = 0
                · subst hn; exact ⟨#[], by simp [rep], fun _ => rfl, fun h => absurd rfl h⟩
                · exact ⟨_, by rw [← hzs]; exact range_cells _ _ (by omega), fun h => absurd h hn, fun _ => rfl⟩
              obtain ⟨c', hf, hr, hc⟩ := fill_rel (place' := fun i => some (i * te.size, te.size)) (c := c0) (fun i x h => h) hP (by rw [hc0]; exact hzr.rep n) (by rw [hc0]; intro x hx; exact hzc x (rep_mem hx)) hcs
              have hlen := hr.length
              have htk : c'.toList.take cs.length = c'.toList := List.take_of_length_le (by omega)
              obtain ⟨g1, g2, g3⟩ := hH.newCells (st := .any) (w' := { w with heap := w.heap.push (.cells c' e) }) (l := cs) rfl (by rw [htk]; exact hr) (by rw [htk]; exact hc)
              have hnb : ¬ (n * te.size > 2 ^ 24) := by
                have : (2 : Nat) ^ 24 = 16777216 := rfl
                omega
              have hfl : cs.length = n * te.size := by
                have h1 := fillA_length hcs
                rw [h1, rep_length, hzl]
              have hcsz : c'.size = n * te.size := by
                have : c'.toList.length = c'.size := Array.length_toList
                omega
              refine ⟨_, .value (.slice (some ⟨w.heap.size, 0, none⟩) n n), _, _, ?_, rfl, g2, g1, ?_, g3⟩
              · by_cases hn : n = 0
                · have e0 := hrun0.1 hn
                  subst hn; subst e0
                  have hr0 : Array.range 0 = #[] := rfl
                  simp [execOp, ho, Instr.buildSlice, hu, hS, hf, newRow, hr0]
                · have e0 := hrun0.2 hn
                  subst e0
                  have h0 : n * te.size ≠ 0 := Nat.mul_ne_zero hn hne
                  simp only [execOp, ho, Instr.buildSlice, Sem.run_bind, hu, Result.andThen_ok, hS, if_neg hnb, if_neg h0, hzv, Sem.run_pure]
                  simp [hf, newRow]
              · unfold mkSl
                cases n with
                | zero => simp only [VRel]; exact ⟨_, 0, rfl, fun _ => rfl⟩
                | succ m =>
                  simp only [VRel]
                  exact ⟨_, m + 1, Inj.upd_self _ _ _, by simp, by omega, by omega, fun _ => rfl, by simp; omega⟩
            · cases h
          · cases h
        · cases h
    · cases h

end
end Go.Ab
