/-
  EACH OPERATION OF THE ABSTRACT MACHINE IS ONE OF THE MODEL's (append, copy).
-/
import Derived.Test.YtmnepjoaggdhpabGreatAbS8
import Derived.Laws.Append
set_option linter.unusedVariables false
namespace Go.Ab

section
variable {T : Tab} {base : Nat → Prop} {ρ : Inj} {env : Tr AV} {hp hp' : Hp} {w : World} {ev : Operand → Value} {o : Oper} {v : AV}

/-- The first elements' cells. -/
theorem first_rel {es n : Nat} {a : AV} {va : Value} {l : List AV} (hH : HRel ρ hp w base) (hv : VRel ρ a va) (h : firstA hp es n a = some l) :
    ∃ vs : List Value, VsRel ρ l vs ∧ (∀ x ∈ vs, x.oneCell' = true) ∧ ∀ w' : World, w'.heap = w.heap → (Builtin.firstCells es n va).run T.P w' = .ok vs.toArray w' := by
  unfold firstA at h
  split at h
  · rename_i i off len lo ex es'
    split at h
    · rename_i e1 e2
      have e2' : es = es' := Nat.eq_of_beq_eq_true e2
      subst e2'
      split at h
      · rename_i N st t hi
        obtain ⟨lc, c, el, fr, hl, _, h1, h2, h3, h4, h5⟩ := heap_cells hH hi
        simp only [VRel] at hv
        obtain ⟨lc', cap, hl', rfl, _⟩ := hv
        rw [hl] at hl'; cases hl'
        obtain ⟨vs, hl1, hrel, hone, _, hrun⟩ := readCells_run (P := T.P) h1 h5 h
        exact ⟨vs, hrel, hone, fun w' hw' => by simp [Builtin.firstCells, hrun w' (by rw [hw']; exact h1)]⟩
      · cases h
    · cases h
  · split at h
    · cases h
      simp only [VRel] at hv
      obtain ⟨ad, cap, rfl, _⟩ := hv
      exact ⟨[], .nil, by simp, fun w' _ => by simp [Builtin.firstCells, loadCells, loadCellsFrom]⟩
    · cases h
  · split at h
    · cases h
      have e := raw_rel hv
      subst e
      exact ⟨[], .nil, by simp, fun w' _ => by simp [Builtin.firstCells]⟩
    · cases h
  · cases h


/-- The operands of append, as they are looked up. -/
structure AppTy (T : Tab) (ts tx e : TypeId) (te : TyI) : Prop where
  ts : ∀ w, (underlying ts).run T.P w = .ok (.slice e) w
  tx : (∃ e', ∀ w, (underlying tx).run T.P w = .ok (.slice e') w) ∨ ∀ w, (underlying tx).run T.P w = .ok .string w
  e : TyOk T.P e te

theorem append_room {ts tx ty e : TypeId} {te : TyI} (hA : AppTy T ts tx e te) {sb : Option Addr} {sLen sCap n : Nat} {vx : Value} {news : List Value} (hl : (Builtin.lenOf vx).run T.P w = .ok n w)
    (hn : (Builtin.firstCells te.size n vx).run T.P w = .ok news.toArray w) (hroom : sLen + n ≤ sCap) {w' : World}
    (hst : ∀ a, sb = some a → (storeCells (a.add (sLen * te.size)) news).run T.P w = .ok () w') (hst' : sb = none → w' = w) :
    (Builtin.append_ #[ts, tx] ty #[.slice sb sLen sCap, vx]).run T.P w = .ok (.slice sb (sLen + n) sCap) w' := by
  have hS := hA.e.run_size w
  rcases hA.tx with ⟨e', htx⟩ | htx
  all_goals
    cases sb with
    | none =>
      have := hst' rfl
      subst this
      simp [Builtin.append_, hA.ts, htx, hS, hl, hn, hroom]
    | some a =>
      have h1 := hst a rfl
      simp [Builtin.append_, hA.ts, htx, hS, hl, hn, hroom, h1]

theorem append_grow {ts tx ty e : TypeId} {te : TyI} (hA : AppTy T ts tx e te) {sb : Option Addr} {sLen sCap n : Nat} {vx : Value} {olds news : List Value} {z : List AV} (hz : te.zero = some z)
    (hl : (Builtin.lenOf vx).run T.P w = .ok n w)
    (hn : (Builtin.firstCells te.size n vx).run T.P w.drew = .ok news.toArray w.drew) (ho : (Builtin.firstCells te.size sLen (.slice sb sLen sCap)).run T.P w.drew = .ok olds.toArray w.drew)
    (hg : sCap < sLen + n) (hfit : (sLen + n) * te.bytes ≤ 140737488355328) (h63 : sLen + n ≤ 9223372036854775807) :
    ∃ cap rest, (Builtin.append_ #[ts, tx] ty #[.slice sb sLen sCap, vx]).run T.P w = .ok (.slice (some ⟨w.heap.size, 0, none⟩) (sLen + n) cap) (w.drew.alloc (.cells ((olds ++ news).toArray ++ rest) e)) ∧
      sLen + n ≤ cap ∧ rest.size = (cap - (sLen + n)) * z.length := by
  have hS := hA.e.run_size w
  obtain ⟨inf, hinf, hsz, hbytes, _⟩ := hA.e.run_info w
  obtain ⟨inf', hinf', hsz', hbytes', _⟩ := hA.e.run_info w.drew
  obtain ⟨zv, hzv, hzr, hzc⟩ := hA.e.run_zero w.drew hz (fun _ => none)
  have hzlen := hzr.length
  have hzs : zv.cells.size = z.length := by
    have : zv.cells.toList.length = zv.cells.size := Array.length_toList
    omega
  have hnr : ¬ (sLen + n ≤ sCap) := by omega
  have hnx : Builtin.nextslicecap (sLen + n) sCap * te.bytes ≤ 281474976710656 := growslice_fits hg hfit
  have h63' : ¬ (((sLen + n : Nat) : Int) > IntKind.i64.max) := by
    have : IntKind.i64.max = 9223372036854775807 := rfl
    rw [this]; omega
  have hnx' : ¬ (Builtin.nextslicecap (sLen + n) sCap * te.bytes > 2 ^ 48) := by
    have : (2 : Nat) ^ 48 = 281474976710656 := rfl
    omega
  refine ⟨grownCap w (sLen + n) sCap e, Builtin.zeroCells zv.cells (grownCap w (sLen + n) sCap e - (sLen + n)), ?_, ?_, ?_⟩
  · have h63'' : ¬ (9223372036854775807 < ((sLen : Int) + (n : Int))) := by omega
    have hnx'' : ¬ (281474976710656 < Builtin.nextslicecap (sLen + n) sCap * te.bytes) := by omega
    rcases hA.tx with ⟨e', htx⟩ | htx
    all_goals
      simp [Builtin.append_, hA.ts, htx, hS, hl, hnr, h63'', hinf, hbytes, hinf', hbytes', hnx'', Question.forced, hn, ho, hzv, newRow, grownCap]
      congr 2
      apply Array.ext'
      simp [List.append_assoc]
  · unfold grownCap; simp [Question.cut]
  · simp [Builtin.zeroCells, hzs]


/-- A block goes on under another name. -/
theorem HRel.rename {ρ : Inj} {hp : Hp} {w w' : World} {base : Nat → Prop} (hH : HRel ρ hp w base) {i : Id} {o o' : AObj} {l l' : Loc} (hi : hp.h.get i = some o) (hl : ρ i = some l) (hb : l'.b = l.b)
    (hw : ∀ b, b ≠ l.b → w'.heap[b]? = w.heap[b]?) (hs : w.heap.size ≤ w'.heap.size) (ho : ORel (ρ.upd hp.next l') w' l' o') (hrest : w'.os = w.os ∧ w'.output = w.output ∧ w'.tape = w.tape := by exact ⟨rfl, rfl, rfl⟩) :
    HRel (ρ.upd hp.next l') ⟨(hp.h.drop i).put hp.next o', hp.next + 1⟩ w' base ∧ ExtN hp.next ρ (ρ.upd hp.next l') ∧ Fr ρ hp w w' := by
  have hx : Ext ρ (ρ.upd hp.next l') := Ext.upd (hH.fresh hp.next (Nat.le_refl _))
  obtain ⟨l0, hl0, hbase, _⟩ := hH.obj i o hi
  rw [hl] at hl0; cases hl0
  have key : ∀ {x : Id} {r : AObj}, ((hp.h.drop i).put hp.next o').get x = some r → (x = hp.next ∧ r = o') ∨ (x ≠ hp.next ∧ x ≠ i ∧ hp.h.get x = some r) := by
    intro x r hx
    rw [Tr.get_put] at hx
    by_cases e : x = hp.next
    · rw [if_pos e] at hx; cases hx; exact .inl ⟨e, rfl⟩
    · rw [if_neg e, Tr.get_drop] at hx
      by_cases e2 : x = i
      · rw [if_pos e2] at hx; cases hx
      · rw [if_neg e2] at hx; exact .inr ⟨e, e2, hx⟩
  have other : ∀ {x : Id} {r : AObj} {m : Loc}, x ≠ i → hp.h.get x = some r → ρ x = some m → m.b ≠ l.b := fun hne hg hm e => hne (hH.inj _ i _ _ _ _ hg hi hm hl e)
  have upd_ne : ∀ {x : Id}, x ≠ hp.next → ρ.upd hp.next l' x = ρ x := fun h => by unfold Inj.upd; rw [if_neg h]
  refine ⟨⟨fun j p hj => ?_, fun j k p q m n hj hk hm hn e => ?_, fun j hj => ?_, fun b hb => hH.size b (Nat.le_trans hs hb)⟩, ExtN.upd (hH.fresh hp.next (Nat.le_refl _)), ⟨fun b _ hne => hw b (fun e => hne i o l hi hl e.symm), hs, hrest⟩⟩
  · rcases key hj with ⟨rfl, rfl⟩ | ⟨h1, h2, h3⟩
    · exact ⟨l', Inj.upd_self _ _ _, by rw [hb]; exact hbase, ho⟩
    · obtain ⟨m, hm, hbm, hp'⟩ := hH.obj j p h3
      exact ⟨m, hx _ _ hm, hbm, (hp'.of_block (hw _ (other h2 h3 hm))).mono hx⟩
  · rcases key hj with ⟨rfl, rfl⟩ | ⟨h1, h2, h3⟩ <;> rcases key hk with ⟨e2, _⟩ | ⟨g1, g2, g3⟩
    · exact e2.symm
    · rw [Inj.upd_self] at hm; cases hm
      rw [upd_ne g1] at hn
      exact absurd (e.symm.trans hb) (other g2 g3 hn)
    · subst e2
      rw [Inj.upd_self] at hn; cases hn
      rw [upd_ne h1] at hm
      exact absurd (e.trans hb) (other h2 h3 hm)
    · rw [upd_ne h1] at hm; rw [upd_ne g1] at hn
      exact hH.inj j k _ _ _ _ h3 g3 hm hn e
  · have hj' : hp.next + 1 ≤ j := hj
    rw [upd_ne (fun e => by subst e; exact absurd hj' (Nat.not_succ_le_self _))]
    exact hH.fresh j (Nat.le_of_succ_le hj')

theorem drew_heap (w : World) : w.drew.heap = w.heap := rfl

theorem fits_iff {need bytes : Nat} (h : fits need bytes = true) : need * bytes ≤ 140737488355328 ∧ need ≤ 9223372036854775807 := by
  unfold fits at h
  simp only [Bool.and_eq_true] at h
  have h1 := Nat.le_of_ble_eq_true h.1.1.1
  have h2 := Nat.le_of_ble_eq_true h.1.1.2
  have hm : most = 1099511627776 := rfl
  omega

/-- A new block, with what was appended. -/
theorem Kd.row_new (e : TypeId) (l : Loc) (m : Nat) (h : l.o = 0) : (Kd.row e).ok e l m := ⟨rfl, h⟩

theorem Kd.grow_row (t : TypeId) (off : Nat) (e : TypeId) : (Kd.row t).grow off e = .any ∨ (off = 0 ∧ t = e ∧ (Kd.row t).grow off e = .row e) := by
  have h : (Kd.row t).grow off e = (match Nat.beq off 0, Nat.beq t e with | true, true => Kd.row e | _, _ => Kd.any) := rfl
  rw [h]
  cases h0 : Nat.beq off 0 with
  | false => exact .inl rfl
  | true => cases h1 : Nat.beq t e with
    | false => exact .inl rfl
    | true => exact .inr ⟨Nat.eq_of_beq_eq_true h0, Nat.eq_of_beq_eq_true h1, rfl⟩

theorem Kd.grow_new (st : Kd) (off : Nat) (e : TypeId) (l : Loc) (m : Nat) (h : l.o = 0) : (st.grow off e).ok e l m := by
  cases st with
  | row t =>
    rcases Kd.grow_row t off e with h1 | ⟨_, _, h1⟩ <;> rw [h1]
    · exact trivial
    · exact ⟨rfl, h⟩
  | _ => exact trivial

theorem Kd.grow_ok {st : Kd} {off : Nat} {e el : TypeId} {l l' : Loc} {n m : Nat} (h : st.ok el l n) (ho : l'.o = l.o + off) : (st.grow off e).ok el l' m := by
  cases st with
  | row t =>
    rcases Kd.grow_row t off e with h1 | ⟨e0, e1, h1⟩ <;> rw [h1]
    · exact trivial
    · subst e0; subst e1
      exact ⟨h.1, ho.trans h.2⟩
  | _ => exact trivial

theorem Kd.grow_str {st : Kd} {off : Nat} {e : TypeId} (h : st = .str) : st.grow off e = .str := by subst h; rfl

theorem append_new {ts tx ty e : TypeId} {te : TyI} (hA : AppTy T ts tx e te) {sb : Option Addr} {sLen sCap n : Nat} {vx : Value} {oldA newA : List AV} {olds news : List Value} {z : List AV} {st : Kd} (hst : ∀ (l : Loc) (m : Nat), l.o = 0 → st.ok e l m) (hH : HRel ρ hp w base)
    (hz : te.zero = some z) (hzs : z.length = te.size) (hl : (Builtin.lenOf vx).run T.P w = .ok n w)
    (hn : (Builtin.firstCells te.size n vx).run T.P w.drew = .ok news.toArray w.drew) (ho : (Builtin.firstCells te.size sLen (.slice sb sLen sCap)).run T.P w.drew = .ok olds.toArray w.drew)
    (hro : VsRel ρ oldA olds) (hrn : VsRel ρ newA news) (hoo : ∀ x ∈ olds, x.oneCell' = true) (hon : ∀ x ∈ news, x.oneCell' = true)
    (hlo : olds.length = sLen * te.size) (hln : news.length = n * te.size)
    (hg : sCap < sLen + n) (hfit : fits (sLen + n) te.bytes = true) :
    ResB T base ρ hp w (Builtin.append_ #[ts, tx] ty #[.slice sb sLen sCap, vx]) (.sl hp.next 0 (sLen + n) (sLen + n) false te.size)
      ⟨hp.h.put hp.next (.cells (oldA ++ newA).length st (putCells .nil 0 (oldA ++ newA))), hp.next + 1⟩ := by
  obtain ⟨hf1, hf2⟩ := fits_iff hfit
  obtain ⟨cap, rest, hrun, hcap, hrest⟩ := append_grow hA hz hl hn ho hg hf1 hf2
  have hr := hro.append hrn
  have hlen := hr.length
  have htk : ((olds ++ news).toArray ++ rest).toList.take (oldA ++ newA).length = olds ++ news := by
    rw [← hlen, Array.toList_append, List.take_left' (by simp)]
  have hone : ∀ x ∈ olds ++ news, x.oneCell' = true := fun x hx => by
    rcases List.mem_append.1 hx with h | h
    · exact hoo x h
    · exact hon x h
  obtain ⟨g1, g2, g3⟩ := hH.newCells (st := st) (hk := hst _ _ rfl) (w' := w.drew.alloc (.cells ((olds ++ news).toArray ++ rest) e)) (l := oldA ++ newA) rfl (by rw [htk]; exact hr) (by rw [htk]; exact hone)
  refine ⟨_, _, _, hrun, g2, g1, ?_, g3⟩
  simp only [VRel]
  refine ⟨_, cap, Inj.upd_self _ _ _, by simp, Nat.le_refl _, hcap, (by simp), ?_⟩
  have hsz : ((olds ++ news).toArray ++ rest).size = cap * te.size := by
    rw [Array.size_append, hrest, hzs]
    simp only [List.size_toArray, List.length_append, hlo, hln]
    rw [Nat.sub_mul, Nat.add_mul]
    have : (sLen + n) * te.size ≤ cap * te.size := Nat.mul_le_mul_right _ hcap
    rw [Nat.add_mul] at this
    omega
  show 0 + 0 + cap * te.size ≤ ((olds ++ news).toArray ++ rest).size
  rw [hsz]; omega

end
end Go.Ab
