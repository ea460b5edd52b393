/-
  EACH OPERATION OF THE ABSTRACT MACHINE IS ONE OF THE MODEL's (memory: new blocks, loads, stores).
-/
import Derived.Test.YtmnepjoaggdhpabGreatAbS3
set_option linter.unusedVariables false
namespace Go.Ab

/-! ### Worlds -/

def withBlock (w : World) (b : Nat) (o : Obj) : World := { w with heap := w.heap.setIfInBounds b o }

theorem withBlock_get (w : World) (b : Nat) (o : Obj) (j : Nat) (hb : b < w.heap.size) : (withBlock w b o).heap[j]? = if j = b then some o else w.heap[j]? := by
  unfold withBlock
  by_cases h : j = b
  · subst h; simp [hb]
  · have h' : b ≠ j := fun e => h e.symm
    simp [h, Array.getElem?_setIfInBounds_ne h']

theorem setCell_eq {w : World} {b off : Nat} {c : Array Value} {el : TypeId} {fr : Nat × Nat} (h : w.heap[b]? = some (.cells c el fr)) (v : Value) :
    w.setCell ⟨b, off, none⟩ v = withBlock w b (.cells (c.setIfInBounds off v) el fr) := by
  unfold World.setCell withBlock
  congr 1
  apply Array.ext_getElem?
  intro j
  have hb : b < w.heap.size := by
    rcases Nat.lt_or_ge b w.heap.size with h' | h'
    · exact h'
    · simp [Array.getElem?_eq_none h'] at h
  rw [Array.getElem?_modify]
  have hgb : w.heap[b] = .cells c el fr := by
    rw [Array.getElem?_eq_getElem hb] at h; exact Option.some.inj h
  by_cases e : b = j
  · subst e
    simp [hb, hgb]
  · rw [if_neg e, Array.getElem?_setIfInBounds_ne e]

theorem withBlock_withBlock (w : World) (b : Nat) (x y : Obj) : withBlock (withBlock w b x) b y = withBlock w b y := by
  unfold withBlock
  congr 1
  apply Array.ext_getElem?
  intro j
  by_cases e : b = j
  · subst e
    simp [Array.getElem?_setIfInBounds]
  · rw [Array.getElem?_setIfInBounds_ne e, Array.getElem?_setIfInBounds_ne e, Array.getElem?_setIfInBounds_ne e]

theorem block_lt {w : World} {b : Nat} {o : Obj} (h : w.heap[b]? = some o) : b < w.heap.size := by
  rcases Nat.lt_or_ge b w.heap.size with h' | h'
  · exact h'
  · simp [Array.getElem?_eq_none h'] at h

theorem storeCells_run {P : Program} {b o : Nat} {el : TypeId} {fr : Nat × Nat} : ∀ (vs : List Value) (i : Nat) (w : World) (c : Array Value), w.heap[b]? = some (.cells c el fr) → o + i + vs.length ≤ c.size →
    (∀ v ∈ vs, v.oneCell' = true) → (∀ k, k < c.size → ¬ (fr.1 ≤ k ∧ k < fr.2)) →
    ∃ c', (storeCells ⟨b, o, none⟩ vs i).run P w = .ok () (withBlock w b (.cells c' el fr)) ∧ c'.size = c.size ∧ ∀ k, c'[k]? = if o + i ≤ k ∧ k < o + i + vs.length then vs[k - (o + i)]? else c[k]?
  | [], i, w, c, h, hle, hc, hf => by
    refine ⟨c, ?_, rfl, fun k => ?_⟩
    · have : withBlock w b (.cells c el fr) = w := by
        unfold withBlock
        have hb := block_lt h
        have hgb : w.heap[b] = .cells c el fr := by
          rw [Array.getElem?_eq_getElem hb] at h; exact Option.some.inj h
        have e : w.heap.setIfInBounds b (.cells c el fr) = w.heap := by
          apply Array.ext_getElem?
          intro j
          by_cases e : b = j
          · subst e; simp [hb, hgb]
          · rw [Array.getElem?_setIfInBounds_ne e]
        rw [e]
      rw [this]; simp [storeCells]
    · rw [if_neg (by simp only [List.length_nil]; omega)]
  | v :: vs, i, w, c, h, hle, hc, hf => by
    have hb := block_lt h
    simp only [List.length_cons] at hle
    have hlt : o + i < c.size := by omega
    have hcell : w.cell? ⟨b, o + i, none⟩ = some c[o + i] := by simp [World.cell?, h, hlt]
    have hfr : w.frozen? ⟨b, o + i, none⟩ = false := by
      have := hf (o + i) hlt
      simp only [World.frozen?, h]
      simp; omega
    have hst : (store ⟨b, o + i, none⟩ v).run P w = .ok () (withBlock w b (.cells (c.setIfInBounds (o + i) v) el fr)) := by
      rw [run_store P w _ v .plain (hc v (by simp)), hcell]
      simp [hfr, setCell_eq h]
    have h' : (withBlock w b (.cells (c.setIfInBounds (o + i) v) el fr)).heap[b]? = some (.cells (c.setIfInBounds (o + i) v) el fr) := by rw [withBlock_get _ _ _ _ hb]; simp
    obtain ⟨c', hrun, hsz, hget⟩ := storeCells_run (P := P) (b := b) (o := o) (el := el) (fr := fr) vs (i + 1) (withBlock w b (.cells (c.setIfInBounds (o + i) v) el fr)) (c.setIfInBounds (o + i) v) h' (by rw [Array.size_setIfInBounds]; omega) (fun x hx => hc x (by simp [hx])) (by rw [Array.size_setIfInBounds]; exact hf)
    refine ⟨c', ?_, by simpa using hsz, fun k => ?_⟩
    · simp only [storeCells, addr_add, Sem.run_bind, hst, Result.andThen_ok, hrun, withBlock_withBlock]
    · rw [hget k]
      by_cases h1 : o + (i + 1) ≤ k ∧ k < o + (i + 1) + vs.length
      · rw [if_pos h1, if_pos (by simp; omega)]
        have : k - (o + i) = (k - (o + (i + 1))) + 1 := by omega
        rw [this]; simp
      · rw [if_neg h1]
        by_cases h2 : k = o + i
        · subst h2
          rw [if_pos (by simp)]
          simp [hlt]
        · rw [if_neg (by simp; omega)]
          have : o + i ≠ k := fun e => h2 e.symm
          rw [Array.getElem?_setIfInBounds_ne this]

/-! ### Memory that changes -/

theorem HRel.change {ρ : Inj} {hp : Hp} {w w' : World} {base : Nat → Prop} (hH : HRel ρ hp w base) {i : Id} {o o' : AObj} {l : Loc} (hi : hp.h.get i = some o) (hl : ρ i = some l)
    (hw : ∀ b, b ≠ l.b → w'.heap[b]? = w.heap[b]?) (hs : w.heap.size ≤ w'.heap.size) (ho : ORel ρ w' l o') (hrest : w'.os = w.os ∧ w'.output = w.output ∧ w'.tape = w.tape := by exact ⟨rfl, rfl, rfl⟩) :
    HRel ρ ⟨hp.h.put i o', hp.next⟩ w' base ∧ Fr ρ hp w w' := by
  refine ⟨⟨fun j p hj => ?_, fun j k p q m n hj hk hm hn e => ?_, hH.fresh, fun b hb => hH.size b (Nat.le_trans hs hb)⟩, ⟨fun b hb hne => hw b (fun e => hne i o l hi hl e.symm), hs, hrest⟩⟩
  · rw [Tr.get_put] at hj
    by_cases e : j = i
    · subst e
      simp at hj; subst hj
      obtain ⟨l', hl', hb, _⟩ := hH.obj j o hi
      rw [hl] at hl'; cases hl'
      exact ⟨l, hl, hb, ho⟩
    · rw [if_neg e] at hj
      obtain ⟨m, hm, hb, hp⟩ := hH.obj j p hj
      refine ⟨m, hm, hb, hp.of_block (hw m.b (fun eb => e (hH.inj j i _ _ _ _ hj hi hm hl eb)))⟩
  · have get' : ∀ {x : Id} {r : AObj}, (hp.h.put i o').get x = some r → ∃ r', hp.h.get x = some r' := by
      intro x r hx
      rw [Tr.get_put] at hx
      by_cases ex : x = i
      · exact ⟨o, ex ▸ hi⟩
      · rw [if_neg ex] at hx; exact ⟨r, hx⟩
    obtain ⟨p', hp'⟩ := get' hj
    obtain ⟨q', hq'⟩ := get' hk
    exact hH.inj j k _ _ _ _ hp' hq' hm hn e

def Inj.upd (ρ : Inj) (i : Id) (l : Loc) : Inj := fun j => if j = i then some l else ρ j

theorem Inj.upd_self (ρ : Inj) (i : Id) (l : Loc) : ρ.upd i l i = some l := by simp [Inj.upd]

theorem Ext.upd {ρ : Inj} {i : Id} {l : Loc} (h : ρ i = none) : Ext ρ (ρ.upd i l) := by
  intro j m hj
  unfold Inj.upd
  by_cases e : j = i
  · subst e; rw [h] at hj; cases hj
  · rw [if_neg e]; exact hj

theorem ExtN.upd {ρ : Inj} {i : Id} {l : Loc} (h : ρ i = none) : ExtN i ρ (ρ.upd i l) :=
  ⟨Ext.upd h, fun j hj => by unfold Inj.upd; rw [if_neg (Nat.ne_of_lt hj)]⟩

/-- A new block. -/
theorem HRel.grow {ρ : Inj} {hp : Hp} {w w' : World} {base : Nat → Prop} (hH : HRel ρ hp w base) {x : Obj} (hw : w'.heap = w.heap.push x) {o : AObj} {l : Loc} (hb : l.b = w.heap.size)
    (ho : ORel (ρ.upd hp.next l) w' l o) (hrest : w'.os = w.os ∧ w'.output = w.output ∧ w'.tape = w.tape := by exact ⟨rfl, rfl, rfl⟩) : HRel (ρ.upd hp.next l) ⟨hp.h.put hp.next o, hp.next + 1⟩ w' base ∧ ExtN hp.next ρ (ρ.upd hp.next l) ∧ Fr ρ hp w w' := by
  have hx : Ext ρ (ρ.upd hp.next l) := Ext.upd (hH.fresh hp.next (Nat.le_refl _))
  have hsz : w'.heap.size = w.heap.size + 1 := by rw [hw]; simp
  have hold : ∀ b, b < w.heap.size → w'.heap[b]? = w.heap[b]? := fun b hb => by
    rw [hw, Array.getElem?_push]
    rw [if_neg (by omega)]
  refine ⟨⟨fun j p hj => ?_, fun j k p q m n hj hk hm hn e => ?_, fun j hj => ?_, fun b hb => hH.size b (by omega)⟩, ExtN.upd (hH.fresh hp.next (Nat.le_refl _)), ⟨fun b hb _ => hold b hb, by omega, hrest⟩⟩
  · rw [Tr.get_put] at hj
    by_cases e : j = hp.next
    · subst e
      simp at hj; subst hj
      exact ⟨l, Inj.upd_self _ _ _, by rw [hb]; exact hH.size _ (Nat.le_refl _), ho⟩
    · rw [if_neg e] at hj
      obtain ⟨m, hm, hbm, hp⟩ := hH.obj j p hj
      exact ⟨m, hx _ _ hm, hbm, (hp.of_block (hold _ hp.lt)).mono hx⟩
  · have key : ∀ {x : Id} {r : AObj} {m : Loc}, (hp.h.put hp.next o).get x = some r → ρ.upd hp.next l x = some m → (x = hp.next ∧ m.b = w.heap.size) ∨ (x ≠ hp.next ∧ hp.h.get x = some r ∧ ρ x = some m ∧ m.b < w.heap.size) := by
      intro x r m hx hm
      rw [Tr.get_put] at hx
      unfold Inj.upd at hm
      by_cases ex : x = hp.next
      · rw [if_pos ex] at hm; cases hm
        exact .inl ⟨ex, hb⟩
      · rw [if_neg ex] at hx hm
        obtain ⟨m', hm', _, ho'⟩ := hH.obj x r hx
        rw [hm] at hm'; cases hm'
        exact .inr ⟨ex, hx, hm, ho'.lt⟩
    rcases key hj hm with ⟨e1, b1⟩ | ⟨e1, g1, r1, b1⟩ <;> rcases key hk hn with ⟨e2, b2⟩ | ⟨e2, g2, r2, b2⟩
    · rw [e1, e2]
    · omega
    · omega
    · exact hH.inj j k _ _ _ _ g1 g2 r1 r2 e
  · unfold Inj.upd
    have hj' : hp.next + 1 ≤ j := hj
    rw [if_neg (fun e => by subst e; exact absurd hj' (Nat.not_succ_le_self _))]
    exact hH.fresh j (Nat.le_of_succ_le hj')

/-- What is not spoken of any more. -/
theorem HRel.forget {ρ : Inj} {hp : Hp} {w : World} {base : Nat → Prop} (hH : HRel ρ hp w base) (i : Id) : HRel ρ ⟨hp.h.drop i, hp.next⟩ w base := by
  have key : ∀ {j : Id} {o : AObj}, (hp.h.drop i).get j = some o → hp.h.get j = some o := by
    intro j o h
    rw [Tr.get_drop] at h
    by_cases e : j = i
    · rw [if_pos e] at h; cases h
    · rwa [if_neg e] at h
  exact ⟨fun j o hj => hH.obj j o (key hj), fun j k o p l m hj hk => hH.inj j k o p l m (key hj) (key hk), hH.fresh, hH.size⟩

/-! ### Cells -/

theorem readCells_get {t : Tr AV} : ∀ {n off : Nat} {l : List AV}, readCells t n off = some l → l.length = n ∧ ∀ k a, l[k]? = some a → t.get (off + k) = some a
  | 0, off, l, h => by
    have h' : (some [] : Option (List AV)) = some l := h
    cases h'
    exact ⟨rfl, fun k a e => by simp at e⟩
  | n + 1, off, l, h => by
    have h' : consO (t.get off) (readCells t n (off + 1)) = some l := h
    unfold consO at h'
    split at h'
    · rename_i a ha
      split at h'
      · rename_i l' hl'
        simp at h'; subst h'
        have ih := readCells_get hl'
        refine ⟨by simp [ih.1], fun k b e => ?_⟩
        cases k with
        | zero => simp at e; subst e; exact ha
        | succ k =>
          simp at e
          have := ih.2 k b e
          rwa [show off + 1 + k = off + (k + 1) by omega] at this
      · cases h'
    · cases h'

/-- The map behind a writing of cells. -/
noncomputable def putCells (t : Tr AV) (off : Nat) : List AV → Tr AV
  | [] => t
  | v :: vs => putCells (t.put off v) (off + 1) vs

theorem writeCells_eq {β : Type} : ∀ (l : List AV) (t : Tr AV) (off : Nat) (k : Tr AV → β), writeCells l t off k = k (putCells t off l)
  | [], _, _, _ => rfl
  | v :: vs, t, off, k => by
    show t.set off v (fun t => forceN (Nat.succ off) fun off => writeCells vs t off k) = _
    rw [Tr.set_eq, forceN_eq, writeCells_eq vs]
    rfl

theorem get_putCells : ∀ (l : List AV) (t : Tr AV) (off k : Nat), (putCells t off l).get k = if off ≤ k ∧ k < off + l.length then l[k - off]? else t.get k
  | [], t, off, k => by rw [if_neg (by simp only [List.length_nil]; omega)]; exact rfl
  | v :: vs, t, off, k => by
    show (putCells (t.put off v) (off + 1) vs).get k = _
    rw [get_putCells vs]
    by_cases h1 : off + 1 ≤ k ∧ k < off + 1 + vs.length
    · rw [if_pos h1, if_pos (by simp; omega)]
      have : k - off = (k - (off + 1)) + 1 := by omega
      rw [this]; simp
    · rw [if_neg h1, Tr.get_put]
      by_cases h2 : k = off
      · subst h2; rw [if_pos rfl, if_pos (by simp)]; simp
      · rw [if_neg h2, if_neg (by simp; omega)]

theorem ofList_eq {β : Type} (l : List AV) (k : Tr AV → β) : ofList l k = k (putCells .nil 0 l) := writeCells_eq l .nil 0 k
theorem lenK_eq {α β : Type} (l : List α) (k : Nat → β) : lenK l k = k l.length := forceN_eq _ _
theorem newObj_eq {β : Type} (hp : Hp) (o : AObj) (k : Id → Hp → β) : newObj hp o k = k hp.next ⟨hp.h.put hp.next o, hp.next + 1⟩ := by
  unfold newObj; rw [Tr.set_eq, forceN_eq]
theorem newCells_eq {β : Type} (kd : Kd) (hp : Hp) (l : List AV) (k : Id → Hp → β) : newCellsK kd hp l k = k hp.next ⟨hp.h.put hp.next (.cells l.length kd (putCells .nil 0 l)), hp.next + 1⟩ := by
  unfold newCellsK; rw [ofList_eq, lenK_eq, newObj_eq]
theorem putObj_eq {β : Type} (hp : Hp) (i : Id) (o : AObj) (k : Hp → β) : putObj hp i o k = k ⟨hp.h.put i o, hp.next⟩ := by
  unfold putObj; rw [Tr.set_eq]

/-- A list's cells, in a block that begins with them. -/
theorem cells_of_list {ρ : Inj} {l : List AV} {vs : List Value} {c : Array Value} (h : VsRel ρ l vs) (hc : ∀ x ∈ vs, x.oneCell' = true) (off : Nat) (hget : ∀ k, k < vs.length → c[off + k]? = vs[k]?) :
    ∀ k a, (putCells .nil 0 l).get k = some a → k < l.length ∧ ∃ v, c[off + k]? = some v ∧ VRel ρ a v ∧ v.oneCell' = true := by
  intro k a hk
  rw [get_putCells] at hk
  by_cases hlt : k < l.length
  · rw [if_pos (by omega)] at hk
    simp at hk
    obtain ⟨v, hv, hr⟩ := h.get hk
    refine ⟨hlt, v, ?_, hr, hc v (List.mem_of_getElem? hv)⟩
    rw [hget k (by rw [h.length]; exact hlt)]; exact hv
  · rw [if_neg (by omega), Tr.get_nil] at hk; cases hk

/-- New cells, as many as they are. -/
theorem HRel.newCells {ρ : Inj} {hp : Hp} {w w' : World} {base : Nat → Prop} {st : Kd} (hH : HRel ρ hp w base) {l : List AV} {c : Array Value} {el : TypeId} (hw : w'.heap = w.heap.push (.cells c el))
    (h : VsRel ρ l (c.toList.take l.length)) (hc : ∀ x ∈ c.toList.take l.length, x.oneCell' = true) (hk : st.ok el ⟨w.heap.size, 0, c.size⟩ l.length := by exact trivial) (hrest : w'.os = w.os ∧ w'.output = w.output ∧ w'.tape = w.tape := by exact ⟨rfl, rfl, rfl⟩) :
    HRel (ρ.upd hp.next ⟨w.heap.size, 0, c.size⟩) ⟨hp.h.put hp.next (.cells l.length st (putCells .nil 0 l)), hp.next + 1⟩ w' base ∧ ExtN hp.next ρ (ρ.upd hp.next ⟨w.heap.size, 0, c.size⟩) ∧ Fr ρ hp w w' := by
  have hx : Ext ρ (ρ.upd hp.next ⟨w.heap.size, 0, c.size⟩) := Ext.upd (hH.fresh hp.next (Nat.le_refl _))
  refine hH.grow hw rfl ?_ hrest
  have hlen := h.length
  refine ⟨c, el, (0, 0), by rw [hw]; simp, rfl, ?_, .inl rfl, hk, ?_⟩
  · simp at hlen ⊢; omega
  · refine cells_of_list (h.mono hx) hc 0 (fun k hk => ?_)
    rw [List.getElem?_take]
    rw [hlen] at hk
    simp [hk]

section
variable {T : Tab} {base : Nat → Prop} {ρ : Inj} {env : Tr AV} {hp hp' : Hp} {w : World} {ev : Operand → Value} {o : Oper} {v : AV}

theorem alloc_sound {t : TypeId} (hT : TabOk T) (ho : o.op = .alloc t) (hH : HRel ρ hp w base)
    (h : opAlloc t T env hp = some (.val v hp')) : Res T base ρ hp w (execOp ev o) v hp' := by
  unfold opAlloc at h
  split at h
  · rename_i ti hti
    split at h
    · rename_i z hz
      rw [newCells_eq] at h
      simp only [Option.some.injEq, ARes.val.injEq] at h
      obtain ⟨rfl, rfl⟩ := h
      obtain ⟨zv, hzv, hr, hc⟩ := (hT.ty t ti hti).run_zero w hz ρ
      have hlen := hr.length
      have htk : zv.cells.toList.take z.length = zv.cells.toList := List.take_of_length_le (by omega)
      obtain ⟨h1, h2, h3⟩ := hH.newCells (st := .var t) (hk := ⟨rfl, rfl, by simpa using hlen⟩) (w' := { w with heap := w.heap.push (.cells zv.cells t) }) (l := z) rfl (by rw [htk]; exact hr) (by rw [htk]; exact hc)
      refine ⟨_, .value (.pointer (some ⟨w.heap.size, 0, none⟩)), _, _, ?_, rfl, h2, h1, ?_, h3⟩
      · simp [execOp, ho, Instr.alloc, hzv, newVar, newRow]
      · simp only [VRel]; exact ⟨_, Inj.upd_self _ _ _, by simp⟩
    · cases h
  · cases h

end
end Go.Ab
