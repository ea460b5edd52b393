/-
  EACH OPERATION OF THE ABSTRACT MACHINE IS ONE OF THE MODEL's (append and copy joined).
-/
import Derived.Test.YtmnepjoaggdhpabGreatAbS9
set_option linter.unusedVariables false
namespace Go.Ab

section
variable {T : Tab} {base : Nat → Prop} {ρ : Inj} {env : Tr AV} {hp hp' : Hp} {w : World} {ev : Operand → Value} {o : Oper} {v : AV}

theorem loadCells_zero {P : Program} (a : Addr) (w : World) : (loadCells a 0).run P w = .ok #[] w := by simp [loadCells, loadCellsFrom]

/-- A tree that tells the same. -/
theorem HRel.tree {h : Tr AObj} {j nx : Nat} {n : Nat} {kd : Kd} {t t' : Tr AV} (hH : HRel ρ ⟨h.put j (.cells n kd t), nx⟩ w base) (ht : ∀ k, t'.get k = t.get k) : HRel ρ ⟨h.put j (.cells n kd t'), nx⟩ w base := by
  have key : ∀ {x : Id} {r : AObj}, (h.put j (.cells n kd t')).get x = some r → ∃ r', (h.put j (.cells n kd t)).get x = some r' ∧ ∀ l, ORel ρ w l r' → ORel ρ w l r := by
    intro x r hx
    rw [Tr.get_put] at hx ⊢
    by_cases e : x = j
    · rw [if_pos e] at hx ⊢
      cases hx
      refine ⟨_, rfl, fun l ho => ?_⟩
      obtain ⟨c, el, fr, h1, h2, h3, h4, h6, h5⟩ := ho
      exact ⟨c, el, fr, h1, h2, h3, h4, h6, fun k a hk => h5 k a (by rw [← ht]; exact hk)⟩
    · rw [if_neg e] at hx ⊢
      exact ⟨r, hx, fun l ho => ho⟩
  refine ⟨fun x r hx => ?_, fun x y r q l m hx hy hl hm e => ?_, hH.fresh, hH.size⟩
  · obtain ⟨r', hr', hor⟩ := key hx
    obtain ⟨l, hl, hb, ho⟩ := hH.obj x r' hr'
    exact ⟨l, hl, hb, hor l ho⟩
  · obtain ⟨r', hr', _⟩ := key hx
    obtain ⟨q', hq', _⟩ := key hy
    exact hH.inj x y r' q' l m hr' hq' hl hm e

theorem ResB.tree {s : Sem Value} {h : Tr AObj} {j nx : Nat} {n : Nat} {kd : Kd} {t t' : Tr AV} (hr : ResB T base ρ hp w s v ⟨h.put j (.cells n kd t), nx⟩) (ht : ∀ k, t'.get k = t.get k) :
    ResB T base ρ hp w s v ⟨h.put j (.cells n kd t'), nx⟩ := by
  obtain ⟨ρ', v', w', h1, h2, h3, h4, h5⟩ := hr
  exact ⟨ρ', v', w', h1, h2, h3.tree ht, h4, h5⟩

theorem appendTo_sound {ts tx ty e : TypeId} {te : TyI} (hA : AppTy T ts tx e te) {s : AV} {vs vx : Value} {n : Nat} {newA : List AV} {news : List Value} {z : List AV} (hH : HRel ρ hp w base)
    (hz : te.zero = some z) (hzs : z.length = te.size) (hl : (Builtin.lenOf vx).run T.P w = .ok n w)
    (hn : ∀ w' : World, w'.heap = w.heap → (Builtin.firstCells te.size n vx).run T.P w' = .ok news.toArray w')
    (hrn : VsRel ρ newA news) (hon : ∀ x ∈ news, x.oneCell' = true) (hlA : newA.length = n * te.size) (hs : VRel ρ s vs)
    (h : appendTo e te.size te.bytes s n newA hp = some (.val v hp')) : ResB T base ρ hp w (Builtin.append_ #[ts, tx] ty #[vs, vx]) v hp' := by
  have hln : news.length = n * te.size := by rw [hrn.length, hlA]
  unfold appendTo at h
  split at h
  · have e1 := raw_rel hs
    subst e1
    split at h
    · simp only [Option.some.injEq, ARes.val.injEq] at h
      obtain ⟨rfl, rfl⟩ := h
      exact .pure hH (append_room hA hl (hn w rfl) (by omega) (fun a ha => by cases ha) (fun _ => rfl)) (raw_mk rfl)
    · rename_i m
      split at h
      · rename_i hfit
        rw [newCells_eq] at h
        simp only [Option.some.injEq, ARes.val.injEq] at h
        obtain ⟨rfl, rfl⟩ := h
        have := append_new (ty := ty) (st := .row e) (sb := none) (sLen := 0) (sCap := 0) (oldA := []) (olds := []) hA (Kd.row_new e) hH hz hzs hl (hn _ rfl) (by simp [Builtin.firstCells]) .nil hrn (by simp) hon (by simp) hln (by omega) (by rw [Nat.zero_add]; exact hfit)
        simpa using this
      · cases h
  · rename_i ex
    have hs' := hs
    simp only [VRel] at hs'
    obtain ⟨a, cap, rfl, hex⟩ := hs'
    split at h
    · simp only [Option.some.injEq, ARes.val.injEq] at h
      obtain ⟨rfl, rfl⟩ := h
      have hnil : news = [] := by
        cases news with
        | nil => rfl
        | cons x xs => simp at hln
      subst hnil
      exact .pure hH (append_room hA hl (hn w rfl) (by omega) (fun b _ => by simp [storeCells]) (fun h => by cases h)) hs
    · rename_i m
      split at h
      · rename_i hfit
        rw [newCells_eq] at h
        simp only [Option.some.injEq, ARes.val.injEq] at h
        obtain ⟨rfl, rfl⟩ := h
        have hc0 := hex rfl
        subst hc0
        have := append_new (ty := ty) (st := .row e) (sb := some a) (sLen := 0) (sCap := 0) (oldA := []) (olds := []) hA (Kd.row_new e) hH hz hzs hl (hn _ rfl) (by simp [Builtin.firstCells, loadCells_zero]) .nil hrn (by simp) hon (by simp) hln (by omega) (by rw [Nat.zero_add]; exact hfit)
        simpa using this
      · cases h
  · rename_i i off len lo ex es'
    split at h
    · rename_i c st t he hi
      have he' : te.size = es' := Nat.eq_of_beq_eq_true he
      subst he'
      rw [forceN_eq] at h
      have hs' := hs
      simp only [VRel] at hs'
      obtain ⟨lc, cap, hlc, rfl, hlen, hcap, hex, hfit0⟩ := hs'
      split at h
      · rename_i hroom
        have hroom' := Nat.le_of_ble_eq_true hroom
        split at h
        · rename_i hle
          have hle' := Nat.le_of_ble_eq_true hle
          rw [writeCells_eq, putObj_eq] at h
          simp only [Option.some.injEq, ARes.val.injEq] at h
          obtain ⟨rfl, rfl⟩ := h
          have hmul : (len + n) * te.size = len * te.size + n * te.size := Nat.add_mul _ _ _
          obtain ⟨w', hrun, hH', hF⟩ := write_cells (T := T) hH hi hlc hrn hon (off := off + len * te.size) (by omega)
          refine ⟨ρ, _, w', append_room hA hl (hn w rfl) (by omega) (fun b hb => ?_) (fun h => by cases h), ExtN.refl _ _, hH', ?_, hF⟩
          · cases hb
            rw [addr_add, Nat.add_assoc]; exact hrun
          · simp only [VRel]
            exact ⟨lc, cap, hlc, rfl, hroom', hcap, hex, hfit0⟩
        · cases h
      · rename_i hnroom
        have hnroom' : lo < len + n := by
          rcases Nat.lt_or_ge lo (len + n) with h' | h'
          · exact h'
          · have := Nat.ble_eq_true_of_le h'
            rw [this] at hnroom; cases hnroom
        split at h
        · rename_i old hfit hold
          obtain ⟨lc', cc, el, fr, hlc', _, h1, h2, h3, h4, h6, h5⟩ := heap_kind hH hi
          rw [hlc] at hlc'; cases hlc'
          obtain ⟨olds, hol, hro, hoo, hog, horun⟩ := readCells_run (P := T.P) h1 h5 hold
          have hof : ∀ w' : World, w'.heap = w.heap → (Builtin.firstCells te.size len (.slice (some ⟨lc.b, lc.o + off, none⟩) len cap)).run T.P w' = .ok olds.toArray w' := fun w' hw' => by
            simp [Builtin.firstCells, horun w' (by rw [hw']; exact h1)]
          split at h
          · rw [newCells_eq] at h
            simp only [Option.some.injEq, ARes.val.injEq] at h
            obtain ⟨rfl, rfl⟩ := h
            have hc := hex rfl
            exact append_new (st := .row e) hA (Kd.row_new e) hH hz hzs hl (hn _ rfl) (hof _ rfl) hro hrn hoo hon hol hln (by omega) hfit
          · have slow : ResB T base ρ hp w (Builtin.append_ #[ts, tx] ty #[.slice (some ⟨lc.b, lc.o + off, none⟩) len cap, vx]) (.sl hp.next 0 (len + n) (len + n) false te.size)
                ⟨(hp.h.drop i).put hp.next (.cells (old ++ newA).length (st.grow off e) (putCells .nil 0 (old ++ newA))), hp.next + 1⟩ := by
              by_cases hgrow : cap < len + n
              · have := append_new (ty := ty) (hp := ⟨hp.h.drop i, hp.next⟩) (st := st.grow off e) hA (Kd.grow_new st off e) (hH.forget i) hz hzs hl (hn _ rfl) (hof _ rfl) hro hrn hoo hon hol hln hgrow hfit
                obtain ⟨ρ', v', w', r1, r2, r3, r4, r5⟩ := this
                refine ⟨ρ', v', w', r1, r2, r3, r4, ⟨fun b hb hne => r5.heap b hb (fun j p m hj hm => ?_), r5.size, r5.rest⟩⟩
                have hj' : (hp.h.drop i).get j = some p := hj
                rw [Tr.get_drop] at hj'
                by_cases e : j = i
                · rw [if_pos e] at hj'; cases hj'
                · rw [if_neg e] at hj'; exact hne j p m hj' hm
              · have hmul : (len + n) * te.size = len * te.size + n * te.size := Nat.add_mul _ _ _
                have hcm : (len + n) * te.size ≤ cap * te.size := Nat.mul_le_mul_right _ (by omega)
                obtain ⟨cc', hrun, hsz, hget⟩ := storeCells_run (P := T.P) (b := lc.b) (o := lc.o + off + len * te.size) (el := el) (fr := fr) news 0 w cc h1 (by omega) hon (by rw [h2]; exact fr_apart h4)
                have hb := block_lt h1
                have hrr := hro.append hrn
                have hoA : old.length = len * te.size := by rw [← hro.length, hol]
                have hlen2 : (old ++ newA).length = (len + n) * te.size := by rw [List.length_append, hoA, hlA, hmul]
                have hren := hH.rename (w' := withBlock w lc.b (.cells cc' el fr)) (l' := ⟨lc.b, lc.o + off, lc.n⟩) (o' := .cells (old ++ newA).length (st.grow off e) (putCells .nil 0 (old ++ newA))) hi hlc rfl
                  (fun b hne => by rw [withBlock_get _ _ _ _ hb, if_neg hne]) (by simp [withBlock]) (by
                    refine ⟨cc', el, fr, by rw [withBlock_get _ _ _ _ hb, if_pos rfl], by show cc'.size = lc.n; omega, by show lc.o + off + (old ++ newA).length ≤ lc.n; omega, h4.imp id (fun h => ⟨Kd.grow_str h.1, h.2⟩), Kd.grow_ok h6 rfl, ?_⟩
                    have hx : Ext ρ (ρ.upd hp.next ⟨lc.b, lc.o + off, lc.n⟩) := Ext.upd (hH.fresh hp.next (Nat.le_refl _))
                    refine cells_of_list (hrr.mono hx) (fun x hx => ?_) (lc.o + off) (fun k hk => ?_)
                    · rcases List.mem_append.1 hx with h | h
                      · exact hoo x h
                      · exact hon x h
                    · rw [hget (lc.o + off + k)]
                      by_cases hin : len * te.size ≤ k
                      · rw [if_pos (by simp only [List.length_append, hol, hln] at hk; omega), List.getElem?_append_right (by omega)]
                        congr 1; omega
                      · rw [if_neg (by omega), List.getElem?_append_left (by omega)]
                        have hk' : k < olds.length := by omega
                        rw [List.getElem?_eq_getElem hk']
                        exact hog k _ (List.getElem?_eq_getElem hk'))
                obtain ⟨g1, g2, g3⟩ := hren
                refine ⟨_, _, _, append_room hA hl (hn w rfl) (by omega) (fun b hb' => ?_) (fun h => by cases h), g2, g1, ?_, g3⟩
                · cases hb'
                  rw [addr_add]; exact hrun
                · simp only [VRel]
                  exact ⟨_, cap, Inj.upd_self _ _ _, by simp, Nat.le_refl _, by omega, (by simp), by show lc.o + off + 0 + cap * te.size ≤ lc.n; omega⟩
            split at h
            · rename_i ho hcl
              have ho' := Nat.eq_of_beq_eq_true ho
              have hcl' := Nat.eq_of_beq_eq_true hcl
              subst ho'; subst hcl'
              rw [Tr.del_eq, writeCells_eq, forceN_eq, newObj_eq] at h
              simp only [Option.some.injEq, ARes.val.injEq] at h
              obtain ⟨rfl, rfl⟩ := h
              have hlen2 : (old ++ newA).length = (len + n) * te.size := by
                have hmul : (len + n) * te.size = len * te.size + n * te.size := Nat.add_mul _ _ _
                have hoA : old.length = len * te.size := by rw [← hro.length, hol]
                rw [List.length_append, hoA, hlA, hmul]
              rw [hlen2] at slow
              refine slow.tree fun k => ?_
              obtain ⟨hrl, hrg⟩ := readCells_get hold
              rw [get_putCells, get_putCells, Tr.get_nil]
              have hoA : old.length = len * te.size := by rw [← hro.length, hol]
              by_cases h1k : k < len * te.size
              · rw [if_neg (by omega), if_pos ⟨Nat.zero_le _, by rw [List.length_append]; omega⟩, Nat.sub_zero, List.getElem?_append_left (by omega)]
                have := hrg k _ (List.getElem?_eq_getElem (show k < old.length by omega))
                rw [Nat.zero_add] at this
                rw [this, List.getElem?_eq_getElem (show k < old.length by omega)]
              · by_cases h2k : k < len * te.size + newA.length
                · rw [if_pos ⟨by omega, h2k⟩, if_pos ⟨Nat.zero_le _, by rw [List.length_append]; omega⟩, Nat.sub_zero, List.getElem?_append_right (by omega), hoA]
                · rw [if_neg (by omega), if_neg (by rw [List.length_append]; omega)]
                  cases ht : t.get k with
                  | none => rfl
                  | some a => have := (h5 k a ht).1; omega
            · rw [Tr.del_eq, ofList_eq, lenK_eq, newObj_eq] at h
              simp only [Option.some.injEq, ARes.val.injEq] at h
              obtain ⟨rfl, rfl⟩ := h
              exact slow
        · cases h
    · cases h
  · cases h

theorem two_args {args : List AV} {vargs : Array Value} {a b : AV} (hr : VsRel ρ args vargs.toList) (ha : args = [a, b]) : ∃ x y, vargs = #[x, y] ∧ VRel ρ a x ∧ VRel ρ b y := by
  subst ha
  obtain ⟨x, l, e1, hx, h1⟩ := hr.cons_inv
  obtain ⟨y, l', e2, hy, h2⟩ := h1.cons_inv
  rw [VsRel.nil_iff] at h2
  subst h2; subst e2
  exact ⟨x, y, by apply Array.toList_inj.1; rw [e1], hx, hy⟩

theorem bytes_rel (ρ : Inj) : ∀ l : List UInt8, VsRel ρ (l.map byteA) (l.map fun b => Value.int .u8 b.toNat)
  | [] => .nil
  | _ :: l => .cons (raw_mk rfl) (bytes_rel ρ l)

theorem appendStr_sound {s : AV} {b : ByteArray} {ts tx ty : TypeId} {vs : Value} (hT : TabOk T) (hs : VRel ρ s vs) (hH : HRel ρ hp w base)
    (h : opAppendStr s b ts tx T hp = some (.val v hp')) : ResB T base ρ hp w (Builtin.append_ #[ts, tx] ty #[vs, .string b]) v hp' := by
  unfold opAppendStr at h
  split at h
  · rename_i ti tj hti htj
    split at h
    · rename_i e hund hund'
      split at h
      · rename_i te hte
        split at h
        · rename_i z hz h1
          split at h
          · rename_i hzs
            have hu := fun w => (hT.ty ts ti hti).run_und w
            have hu' := fun w => (hT.ty tx tj htj).run_und w
            rw [hund] at hu; rw [hund'] at hu'
            have hA : AppTy T ts tx e te := ⟨hu, .inr hu', hT.ty e te hte⟩
            have h1' := Nat.eq_of_beq_eq_true h1
            have hlen : b.data.toList.length = b.size := Array.length_toList
            refine appendTo_sound hA hH hz (Nat.eq_of_beq_eq_true hzs) (news := b.data.toList.map fun x => Value.int .u8 x.toNat) ?_ ?_ (bytes_rel ρ _) ?_ ?_ hs h
            · rw [hlen]; rfl
            · intro w' _
              simp only [Builtin.firstCells, Sem.run_pure]
              congr 1
              apply Array.ext'
              have e0 : b.extract 0 b.data.toList.length = b := by rw [hlen]; exact ByteArray.extract_zero_size
              rw [e0]
              simp
            · intro x hx
              obtain ⟨y, _, rfl⟩ := List.mem_map.1 hx
              rfl
            · rw [h1']; simp
          · cases h
        · cases h
      · cases h
    · cases h
  · cases h

theorem append_sound {tys : Array TypeId} {ty : TypeId} {args : List AV} {vargs : Array Value} (hT : TabOk T) (hr : VsRel ρ args vargs.toList) (hH : HRel ρ hp w base)
    (h : opAppend tys.toList args T hp = some (.val v hp')) : ResB T base ρ hp w (Builtin.append_ tys ty vargs) v hp' := by
  unfold opAppend at h
  split at h
  · rename_i s b ts tx htys
    obtain ⟨vs, vx, rfl, hs, hx⟩ := two_args hr rfl
    have et : tys = #[ts, tx] := by apply Array.toList_inj.1; rw [htys]
    subst et
    have e := raw_rel hx
    subst e
    exact appendStr_sound hT hs hH h
  · rename_i s x ts tx _ htys
    obtain ⟨vs, vx, rfl, hs, hx⟩ := two_args hr rfl
    have et : tys = #[ts, tx] := by apply Array.toList_inj.1; rw [htys]
    subst et
    split at h
    · rename_i ti tj hti htj
      split at h
      · rename_i e hund htj2
        split at h
        · rename_i te hte
          split at h
          · rename_i n hz0 hn
            split at h
            · rename_i new hnew
              split at h
              · rename_i z hlen hz
                split at h
                · rename_i hzs
                  have hu := fun w => (hT.ty ts ti hti).run_und w
                  rw [hund] at hu
                  have hA : AppTy T ts tx e te := by
                    refine ⟨hu, ?_, hT.ty e te hte⟩
                    split at htj2
                    · rename_i e' hund'
                      have hu' := fun w => (hT.ty tx tj htj).run_und w
                      rw [hund'] at hu'
                      exact .inl ⟨e', hu'⟩
                    · cases htj2
                  obtain ⟨news, hrn, hon, hrun⟩ := first_rel (T := T) hH hx hnew
                  obtain ⟨p, cc, rfl⟩ := lenS_rel hx hn
                  exact appendTo_sound hA hH hz (Nat.eq_of_beq_eq_true hzs) (by simp [Builtin.lenOf]) hrun hrn hon (Nat.eq_of_beq_eq_true hlen) hs h
                · cases h
              · cases h
            · cases h
          · cases h
        · cases h
      · cases h
    · cases h
  · cases h

theorem copy_sound {tys : Array TypeId} {ty : TypeId} {args : List AV} {vargs : Array Value} (hT : TabOk T) (hr : VsRel ρ args vargs.toList) (hH : HRel ρ hp w base)
    (h : opCopy tys.toList args T hp = some (.val v hp')) : ResB T base ρ hp w (Builtin.copy_ tys ty vargs) v hp' := by
  unfold opCopy at h
  split at h
  · rename_i d s ts rest htys
    obtain ⟨vd, vs, rfl, hd, hs⟩ := two_args hr rfl
    have et : tys[0]? = some ts := by rw [← toList_get, htys]; rfl
    split at h
    · rename_i ti dl sl hti hdl hsl
      have hu := (hT.ty ts ti hti).run_und w
      split at h
      · rename_i e hund
        rw [hund] at hu
        split at h
        · rename_i te hte
          have hS := (hT.ty e te hte).run_size w
          rw [forceN_eq] at h
          split at h
          · rename_i cs hcs
            obtain ⟨vals, hrv, hov, hrun⟩ := first_rel (T := T) hH hs hcs
            obtain ⟨ps, cs', rfl⟩ := lenS_rel hs hsl
            split at h
            · rename_i i off len lo ex es
              split at h
              · rename_i c st t hi he
                split at h
                · rename_i hle
                  have hle' := Nat.le_of_ble_eq_true hle
                  rw [writeCells_eq, putObj_eq] at h
                  simp only [Option.some.injEq, ARes.val.injEq] at h
                  obtain ⟨rfl, rfl⟩ := h
                  simp only [VRel] at hd
                  obtain ⟨lc, cap, hlc, rfl, _⟩ := hd
                  have hdl' : dl = len := by unfold lenS at hdl; simpa using hdl.symm
                  subst hdl'
                  obtain ⟨w', hst, hH', hF⟩ := write_cells (T := T) hH hi hlc hrv hov hle'
                  refine ⟨ρ, .int .i64 (Nat.min sl dl : Nat), w', ?_, ExtN.refl _ _, hH', raw_mk rfl, hF⟩
                  have hrun' := hrun w rfl
                  simp only [Builtin.copy_, et]
                  simp [hu, Builtin.lenOf, hS, hrun', hst, goInt]
                · cases h
              · cases h
            · rename_i ex
              split at h
              · simp only [Option.some.injEq, ARes.val.injEq] at h
                obtain ⟨rfl, rfl⟩ := h
                simp only [VRel] at hd
                obtain ⟨ad, cap, rfl, _⟩ := hd
                have hdl' : dl = 0 := by unfold lenS at hdl; simpa using hdl.symm
                subst hdl'
                have hv : vals = [] := VsRel.nil_iff.1 hrv
                subst hv
                have hrun' := hrun w rfl
                refine .pure hH (v' := .int .i64 (Nat.min sl 0 : Nat)) ?_ (raw_mk rfl)
                simp only [Builtin.copy_, et]
                simp [hu, Builtin.lenOf, hS, goInt] at hrun' ⊢
                simp [hrun', storeCells]
              · cases h
            · cases h
          · cases h
        · cases h
      · cases h
    · cases h
  · cases h

end
end Go.Ab
