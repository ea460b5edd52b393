/-
  EACH OPERATION OF THE ABSTRACT MACHINE IS ONE OF THE MODEL's (maps that change; ranges over an empty map).
-/
import Derived.Test.YtmnepjoaggdhpabGreatAbS11
set_option linter.unusedVariables false
namespace Go.Ab

section
variable {T : Tab} {base : Nat → Prop} {ρ : Inj} {env : Tr AV} {hp hp' : Hp} {w : World} {ev : Operand → Value} {o : Oper} {v : AV}

theorem keyThatStays_run (P : Program) (old new : Value) (w : World) : ∃ k w', (Instr.keyThatStays old new).run P w = .ok k w' ∧ (k = old ∨ k = new) ∧ w'.heap = w.heap ∧ (w'.os = w.os ∧ w'.output = w.output ∧ w'.tape = w.tape) := by
  unfold Instr.keyThatStays
  by_cases h : Instr.sameBits 10000 old new = true
  · exact ⟨new, w, by simp [h], .inr rfl, rfl, ⟨rfl, rfl, rfl⟩⟩
  · simp only [h]
    by_cases hf : (Question.extern "map.whichKeyStays" 2).forced = true
    · exact ⟨new, w, by simp [hf], .inr rfl, rfl, ⟨rfl, rfl, rfl⟩⟩
    · by_cases hc : (Question.extern "map.whichKeyStays" 2).cut (w.tape w.drawn (.extern "map.whichKeyStays" 2)) = 0
      · exact ⟨new, w.drew, by simp [hf, hc], .inr rfl, rfl, ⟨rfl, rfl, rfl⟩⟩
      · exact ⟨old, w.drew, by simp [hf, hc], .inl rfl, rfl, ⟨rfl, rfl, rfl⟩⟩

theorem findA_get {k : AV} : ∀ {es : List (AV × AV × Nat)} {i j : Nat} {v : AV} {b : Nat}, findA k es i = some (some (j, v, b)) → i ≤ j ∧ es[j - i]? = some (k, v, b)
  | [], _, _, _, _, h => by simp [findA] at h
  | (k', v', b') :: es, i, j, v, b, h => by
    simp only [findA] at h
    split at h
    · rename_i hk
      cases h
      have e := keyEq_true hk
      subst e
      exact ⟨Nat.le_refl _, by simp⟩
    · obtain ⟨h1, h2⟩ := findA_get h
      refine ⟨by omega, ?_⟩
      rw [show j - i = (j - (i + 1)) + 1 by omega]
      simpa using h2
    · cases h

theorem EsRel.get : ∀ {es : List (AV × AV × Nat)} {l : List MapEntry} {j : Nat} {k v : AV} {b : Nat}, EsRel ρ es l → es[j]? = some (k, v, b) → ∃ e, l[j]? = some e ∧ VRel ρ k e.key ∧ VRel ρ v e.val ∧ e.born = b
  | [], _, j, _, _, _, _, h => by simp at h
  | (k', v', b') :: es, l, 0, k, v, b, he, h => by
    simp only [EsRel] at he
    obtain ⟨kk, vv, l', rfl, h1, h2, _⟩ := he
    simp at h
    obtain ⟨rfl, rfl, rfl⟩ := h
    exact ⟨_, rfl, h1, h2, rfl⟩
  | (k', v', b') :: es, l, j + 1, k, v, b, he, h => by
    simp only [EsRel] at he
    obtain ⟨kk, vv, l', rfl, _, _, h3⟩ := he
    simp at h
    obtain ⟨e, h4, h5⟩ := EsRel.get h3 h
    exact ⟨e, by simpa using h4, h5⟩

/-- An entry's value changes; its key stays as good. -/
theorem EsRel.set {v : AV} {f : MapEntry → MapEntry} : ∀ {es : List (AV × AV × Nat)} {l : List MapEntry} {j : Nat}, EsRel ρ es l →
    (∀ k u b e, es[j]? = some (k, u, b) → l[j]? = some e → VRel ρ k (f e).key ∧ VRel ρ v (f e).val ∧ (f e).born = b) → EsRel ρ (setVal es j v) (l.modify j f)
  | [], _, j, he, _ => by
    simp only [EsRel] at he; subst he
    simp [setVal, EsRel]
  | (k', v', b') :: es, l, 0, he, hf => by
    simp only [EsRel] at he
    obtain ⟨kk, vv, l', rfl, h1, h2, h3⟩ := he
    obtain ⟨g1, g2, g3⟩ := hf k' v' b' ⟨kk, vv, b'⟩ (by simp) (by simp)
    simp only [setVal, List.modify_zero_cons, EsRel]
    rcases hfe : f ⟨kk, vv, b'⟩ with ⟨a1, a2, a3⟩
    rw [hfe] at g1 g2 g3
    exact ⟨a1, a2, _, by rw [← g3], g1, g2, h3⟩
  | (k', v', b') :: es, l, j + 1, he, hf => by
    simp only [EsRel] at he
    obtain ⟨kk, vv, l', rfl, h1, h2, h3⟩ := he
    simp only [setVal, List.modify_succ_cons, EsRel]
    exact ⟨kk, vv, _, rfl, h1, h2, EsRel.set h3 (fun k u b e hk hl => hf k u b e (by simpa using hk) (by simpa using hl))⟩

/-- An entry as it was. -/
theorem setVal_same : ∀ {es : List (AV × AV × Nat)} {j : Nat} {k v : AV} {b : Nat}, es[j]? = some (k, v, b) → setVal es j v = es
  | [], _, _, _, _, h => by simp at h
  | (k', v', b') :: es, 0, k, v, b, h => by
    simp at h
    obtain ⟨rfl, rfl, rfl⟩ := h
    rfl
  | e :: es, j + 1, k, v, b, h => by
    simp at h
    simp only [setVal]
    rw [setVal_same h]

theorem EsRel.push {k v : AV} {b : Nat} {k' v' : Value} (hk : VRel ρ k k') (hv : VRel ρ v v') : ∀ {es : List (AV × AV × Nat)} {l : List MapEntry}, EsRel ρ es l → EsRel ρ (es ++ [(k, v, b)]) (l ++ [⟨k', v', b⟩])
  | [], _, he => by
    simp only [EsRel] at he; subst he
    simp only [List.nil_append, EsRel]
    exact ⟨_, _, _, rfl, hk, hv, rfl⟩
  | (k1, v1, b1) :: es, l, he => by
    simp only [EsRel] at he
    obtain ⟨kk, vv, l', rfl, h1, h2, h3⟩ := he
    simp only [List.cons_append, EsRel]
    exact ⟨_, _, _, rfl, h1, h2, EsRel.push hk hv h3⟩

theorem setObj_map {P : Program} {w : World} {b : Nat} {es : Array MapEntry} {clock : Nat} (h : w.heap[b]? = some (.map es clock)) (x : Obj) : (setObj b x).run P w = .ok () (withBlock w b x) := by
  simp only [setObj, Sem.run]
  rw [h]; rfl

theorem withBlock_self {w : World} {b : Nat} {x : Obj} (hb : b < w.heap.size) : (withBlock w b x).heap[b]? = some x := by rw [withBlock_get _ _ _ _ hb]; simp
theorem withBlock_size (w : World) (b : Nat) (x : Obj) : (withBlock w b x).heap.size = w.heap.size := by simp [withBlock]

theorem mapUpdate_sound {t : TypeId} {x k y : Operand} (hT : TabOk T) (ho : o.op = .mapUpdate t x k y) (hev : Ops ρ env ev [x, k, y]) (hH : HRel ρ hp w base)
    (h : opMapUpdate t x k y T env hp = some (.val v hp')) : Res T base ρ hp w (execOp ev o) v hp' := by
  unfold opMapUpdate at h
  split at h
  · rename_i i ka va ti hx hk hy hti
    have hx' := hev x (by simp) _ hx
    have hk' := hev k (by simp) _ hk
    have hy' := hev y (by simp) _ hy
    have hu := (hT.ty t ti hti).run_und w
    split at h
    · rename_i kt et hund
      rw [hund] at hu
      split at h
      · rename_i es clock hok hi
        obtain ⟨l, es', hl, hw, hes⟩ := heap_map hH hi
        simp only [VRel] at hx'
        obtain ⟨l', hl', e1⟩ := hx'
        rw [hl] at hl'; cases hl'
        have hck := checkKey_run (w := w) hT hok hk' false
        have hbl := block_lt hw
        split at h
        · rename_i j fst hf
          obtain ⟨fv, fb⟩ := fst
          obtain ⟨r', hr, hF⟩ := findKey_rel (w := w) hT hok hk' hes hf
          obtain ⟨v', e, rfl, _, hej, _, _, hv⟩ := hF
          obtain ⟨_, hgj⟩ := findA_get hf
          simp only [Nat.sub_zero] at hgj hej
          obtain ⟨key, w1, hks, hkey, hw1, hrest⟩ := keyThatStays_run T.P (((es'[j]?).map (·.key)).getD (ev k)) (ev k) w
          rw [putObj_eq] at h
          simp only [Option.some.injEq, ARes.val.injEq] at h
          obtain ⟨rfl, rfl⟩ := h
          have hw' : w1.heap[l.b]? = some (.map es' clock) := by rw [hw1]; exact hw
          have hbl' := block_lt hw'
          obtain ⟨e', he1, he2, he3, he4⟩ := hes.get hgj
          have hej' : es'[j]? = some e' := by rw [← toList_get]; exact he1
          have hkey' : VRel ρ ka key := by
            rcases hkey with rfl | rfl
            · simpa [hej'] using he2
            · exact hk'
          have hR : EsRel ρ (setVal es j va) (es'.modify j fun e => { e with key, val := ev y }).toList := by
            rw [Array.toList_modify]
            refine hes.set fun k0 u b e0 hk0 hl0 => ?_
            rw [hgj] at hk0
            simp only [Option.some.injEq, Prod.mk.injEq] at hk0
            obtain ⟨rfl, rfl, rfl⟩ := hk0
            rw [he1] at hl0; cases hl0
            exact ⟨hkey', hy', he4⟩
          obtain ⟨g1, g2⟩ := hH.change (o' := .map (setVal es j va) clock) (w' := withBlock w1 l.b (.map (es'.modify j fun e => { e with key, val := ev y }) clock)) hi hl
            (fun b hb => by rw [withBlock_get _ _ _ _ hbl', if_neg hb, hw1]) (by rw [withBlock_size, hw1]; exact Nat.le_refl _) ⟨_, withBlock_self hbl', hR⟩ hrest
          refine ⟨ρ, .skip, undef, _, ?_, rfl, ExtN.refl _ _, g1, by simp [undefA, VRel, undef, VsRel], g2⟩
          simp [execOp, ho, Instr.mapUpdate, hu, e1, getObj_map hw, hck, hr, hks, setObj_map hw']
        · rename_i hf
          obtain ⟨r', hr, hF⟩ := findKey_rel (w := w) hT hok hk' hes hf
          have hF' : r' = none := hF
          subst hF'
          rw [forceN_eq, putObj_eq] at h
          simp only [Option.some.injEq, ARes.val.injEq] at h
          obtain ⟨rfl, rfl⟩ := h
          have hR : EsRel ρ (es ++ [(ka, va, clock)]) (es'.push { key := ev k, val := ev y, born := clock }).toList := by
            rw [Array.toList_push]
            exact hes.push hk' hy'
          obtain ⟨g1, g2⟩ := hH.change (o' := .map (es ++ [(ka, va, clock)]) (clock + 1)) (w' := withBlock w l.b (.map (es'.push { key := ev k, val := ev y, born := clock }) (clock + 1))) hi hl
            (fun b hb => by rw [withBlock_get _ _ _ _ hbl, if_neg hb]) (by rw [withBlock_size]; exact Nat.le_refl _) ⟨_, withBlock_self hbl, hR⟩
          refine ⟨ρ, .skip, undef, _, ?_, rfl, ExtN.refl _ _, g1, by simp [undefA, VRel, undef, VsRel], g2⟩
          simp [execOp, ho, Instr.mapUpdate, hu, e1, getObj_map hw, hck, hr, setObj_map hw]
        · cases h
      · cases h
    · cases h
  · cases h

theorem mapEntry_sound {t : TypeId} {x k : Operand} (hT : TabOk T) (ho : o.op = .mapEntry t x k) (hev : Ops ρ env ev [x, k]) (hH : HRel ρ hp w base)
    (h : opMapEntry t x k T env hp = some (.val v hp')) : Res T base ρ hp w (execOp ev o) v hp' := by
  unfold opMapEntry at h
  split at h
  · rename_i i ka ti hx hk hti
    have hx' := hev x (by simp) _ hx
    have hk' := hev k (by simp) _ hk
    have hu := (hT.ty t ti hti).run_und w
    split at h
    · rename_i kt et hund
      rw [hund] at hu
      split at h
      · rename_i es clock hok hi
        obtain ⟨l, es', hl, hw, hes⟩ := heap_map hH hi
        simp only [VRel] at hx'
        obtain ⟨l', hl', e1⟩ := hx'
        rw [hl] at hl'; cases hl'
        have hck := checkKey_run (w := w) hT hok hk' false
        have hbl := block_lt hw
        split at h
        · rename_i j fv fb hf
          obtain ⟨r', hr, hF⟩ := findKey_rel (w := w) hT hok hk' hes hf
          obtain ⟨v', e, rfl, _, hej, _, hbe, hv⟩ := hF
          obtain ⟨_, hgj⟩ := findA_get hf
          simp only [Nat.sub_zero] at hgj hej
          obtain ⟨key, w1, hks, hkey, hw1, hrest⟩ := keyThatStays_run T.P (((es'[j]?).map (·.key)).getD (ev k)) (ev k) w
          simp only [Option.some.injEq, ARes.val.injEq] at h
          obtain ⟨rfl, rfl⟩ := h
          have hw' : w1.heap[l.b]? = some (.map es' clock) := by rw [hw1]; exact hw
          have hbl' := block_lt hw'
          obtain ⟨e', he1, he2, he3, he4⟩ := hes.get hgj
          have hej' : es'[j]? = some e' := by rw [← toList_get]; exact he1
          have hkey' : VRel ρ ka key := by
            rcases hkey with rfl | rfl
            · simpa [hej'] using he2
            · exact hk'
          have hR : EsRel ρ es (es'.modify j fun e => { e with key }).toList := by
            rw [Array.toList_modify, ← setVal_same hgj]
            refine hes.set fun k0 u b e0 hk0 hl0 => ?_
            rw [hgj] at hk0
            simp only [Option.some.injEq, Prod.mk.injEq] at hk0
            obtain ⟨rfl, rfl, rfl⟩ := hk0
            rw [he1] at hl0; cases hl0
            exact ⟨hkey', he3, he4⟩
          have hO : HRel ρ hp (withBlock w1 l.b (.map (es'.modify j fun e => { e with key }) clock)) base ∧ Fr ρ hp w (withBlock w1 l.b (.map (es'.modify j fun e => { e with key }) clock)) := by
            have hoth : ∀ b, b ≠ l.b → (withBlock w1 l.b (.map (es'.modify j fun e => { e with key }) clock)).heap[b]? = w.heap[b]? := fun b hb => by rw [withBlock_get _ _ _ _ hbl', if_neg hb, hw1]
            have hs : w.heap.size ≤ (withBlock w1 l.b (.map (es'.modify j fun e => { e with key }) clock)).heap.size := by rw [withBlock_size, hw1]; exact Nat.le_refl _
            refine ⟨⟨fun j' p hj => ?_, hH.inj, hH.fresh, fun b hb => hH.size b (Nat.le_trans hs hb)⟩, ⟨fun b _ hne => hoth b (fun e => hne i _ l hi hl e.symm), hs, hrest⟩⟩
            obtain ⟨m, hm, hb, hp'⟩ := hH.obj j' p hj
            by_cases ej : j' = i
            · subst ej
              rw [hi] at hj; cases hj
              rw [hl] at hm; cases hm
              exact ⟨l, hl, hb, _, withBlock_self hbl', hR⟩
            · exact ⟨m, hm, hb, hp'.of_block (hoth m.b fun eb => ej (hH.inj j' i _ _ _ _ hj hi hm hl eb))⟩
          refine ⟨ρ, .value (.tuple #[v', goInt fb]), .tuple #[v', goInt fb], _, ?_, rfl, ExtN.refl _ _, hO.1, ?_, hO.2⟩
          · have hb' : e'.born = fb := he4
            rw [hej'] at hks
            simp at hks
            simp [execOp, ho, Instr.mapEntry, hu, e1, getObj_map hw, hck, hr, hks, setObj_map hw', hej', hb']
          · simp only [VRel]
            exact ⟨_, rfl, .cons hv (.cons (raw_mk rfl) .nil)⟩
        · rename_i hf
          obtain ⟨r', hr, hF⟩ := findKey_rel (w := w) hT hok hk' hes hf
          have hF' : r' = none := hF
          subst hF'
          split at h
          · rename_i z hz
            obtain ⟨zv, hzv, hzr⟩ := zeroA_rel (w := w) (ρ := ρ) hT hz
            rw [forceN_eq, putObj_eq] at h
            simp only [Option.some.injEq, ARes.val.injEq] at h
            obtain ⟨rfl, rfl⟩ := h
            have hR : EsRel ρ (es ++ [(ka, z, clock)]) (es'.push { key := ev k, val := zv, born := clock }).toList := by
              rw [Array.toList_push]
              exact hes.push hk' hzr
            obtain ⟨g1, g2⟩ := hH.change (o' := .map (es ++ [(ka, z, clock)]) (clock + 1)) (w' := withBlock w l.b (.map (es'.push { key := ev k, val := zv, born := clock }) (clock + 1))) hi hl
              (fun b hb => by rw [withBlock_get _ _ _ _ hbl, if_neg hb]) (by rw [withBlock_size]; exact Nat.le_refl _) ⟨_, withBlock_self hbl, hR⟩
            refine ⟨ρ, .value (.tuple #[zv, goInt clock]), .tuple #[zv, goInt clock], _, ?_, rfl, ExtN.refl _ _, g1, ?_, g2⟩
            · simp [execOp, ho, Instr.mapEntry, hu, e1, getObj_map hw, hck, hr, hzv, setObj_map hw]
            · simp only [VRel]
              exact ⟨_, rfl, .cons hzr (.cons (raw_mk rfl) .nil)⟩
          · cases h
        · cases h
      · cases h
    · cases h
  · cases h

theorem bornAt_find {b : Nat} : ∀ {es : List (AV × AV × Nat)} {l : List MapEntry} {i j : Nat}, EsRel ρ es l → bornAt b es i = some j → i ≤ j ∧ l.findIdx? (fun e => (e.born : Int) == (Int.ofNat b)) = some (j - i) ∧ ∃ k u, es[j - i]? = some (k, u, b)
  | [], _, _, _, _, h => by simp [bornAt] at h
  | (k, u, c) :: es, l, i, j, he, h => by
    simp only [EsRel] at he
    obtain ⟨kk, vv, l', rfl, h1, h2, h3⟩ := he
    simp only [bornAt] at h
    split at h
    · rename_i hc
      have hc' := Nat.eq_of_beq_eq_true hc
      subst hc'
      cases h
      refine ⟨Nat.le_refl _, ?_, k, u, by simp⟩
      simp [List.findIdx?_cons]
    · rename_i hc
      obtain ⟨g1, g2, g3⟩ := bornAt_find h3 h
      have hne : c ≠ b := fun e => by subst e; simp [Nat.beq_refl] at hc
      refine ⟨by omega, ?_, ?_⟩
      · rw [List.findIdx?_cons]
        have : (((c : Nat) : Int) == Int.ofNat b) = false := by
          apply beq_eq_false_iff_ne.2
          intro e
          exact hne (Int.ofNat_inj.1 e)
        rw [this, g2]
        simp; omega
      · rw [show j - i = (j - (i + 1)) + 1 by omega]
        simpa using g3

theorem entryStore_sound {t : TypeId} {x s y : Operand} (hT : TabOk T) (ho : o.op = .entryStore t x s y) (hev : Ops ρ env ev [x, s, y]) (hH : HRel ρ hp w base)
    (h : opEntryStore x s y T env hp = some (.val v hp')) : Res T base ρ hp w (execOp ev o) v hp' := by
  unfold opEntryStore at h
  split at h
  · rename_i i b va hx hs hy
    have hx' := hev x (by simp) _ hx
    have hs' := raw_rel (hev s (by simp) _ hs)
    have hy' := hev y (by simp) _ hy
    split at h
    · rename_i es clock hi
      split at h
      · rename_i j hj
        obtain ⟨l, es', hl, hw, hes⟩ := heap_map hH hi
        simp only [VRel] at hx'
        obtain ⟨l', hl', e1⟩ := hx'
        rw [hl] at hl'; cases hl'
        have hbl := block_lt hw
        obtain ⟨_, hfi, k0, u0, hg0⟩ := bornAt_find hes hj
        simp only [Nat.sub_zero] at hfi hg0
        have hfi' : es'.findIdx? (fun e => (e.born : Int) == Int.ofNat b) = some j := by
          rw [← Array.toArray_toList (xs := es'), List.findIdx?_toArray]; exact hfi
        rw [putObj_eq] at h
        simp only [Option.some.injEq, ARes.val.injEq] at h
        obtain ⟨rfl, rfl⟩ := h
        obtain ⟨e', he1, he2, he3, he4⟩ := hes.get hg0
        have hR : EsRel ρ (setVal es j va) (es'.modify j fun e => { e with val := ev y }).toList := by
          rw [Array.toList_modify]
          refine hes.set fun k1 u b1 e0 hk0 hl0 => ?_
          rw [hg0] at hk0
          simp only [Option.some.injEq, Prod.mk.injEq] at hk0
          obtain ⟨rfl, rfl, rfl⟩ := hk0
          rw [he1] at hl0; cases hl0
          exact ⟨he2, hy', he4⟩
        obtain ⟨g1, g2⟩ := hH.change (o' := .map (setVal es j va) clock) (w' := withBlock w l.b (.map (es'.modify j fun e => { e with val := ev y }) clock)) hi hl
          (fun b hb => by rw [withBlock_get _ _ _ _ hbl, if_neg hb]) (by rw [withBlock_size]; exact Nat.le_refl _) ⟨_, withBlock_self hbl, hR⟩
        refine ⟨ρ, .skip, undef, _, ?_, rfl, ExtN.refl _ _, g1, by simp [undefA, VRel, undef, VsRel], g2⟩
        simp only [execOp, ho, Instr.entryStore, e1, hs']
        simp [getObj_map hw, asInt, setObj_map hw]
        rw [show (asIntOf (.int .i64 (b : Int))).run T.P w = .ok (.i64, (b : Int)) w from rfl]
        simp only [Result.andThen_ok]
        rw [show (es'.findIdx? fun e => (e.born : Int) == (b : Int)) = some j from hfi']
        simp [setObj_map hw]
      · cases h
    · cases h
  · cases h

theorem range_sound {t : TypeId} {x : Operand} (hT : TabOk T) (ho : o.op = .range t x) (hev : Ops ρ env ev [x]) (hH : HRel ρ hp w base)
    (h : opRange t x T env hp = some (.val v hp')) : Res T base ρ hp w (execOp ev o) v hp' := by
  unfold opRange at h
  split at h
  · rename_i m ti hx hti
    have hx' := hev x (by simp) _ hx
    have hu := (hT.ty t ti hti).run_und w
    split at h
    · rename_i kt et clock hund hi
      rw [hund] at hu
      obtain ⟨l, es', hl, hw, hes⟩ := heap_map hH hi
      simp only [VRel] at hx'
      obtain ⟨l', hl', e1⟩ := hx'
      rw [hl] at hl'; cases hl'
      rw [newObj_eq] at h
      simp only [Option.some.injEq, ARes.val.injEq] at h
      obtain ⟨rfl, rfl⟩ := h
      let nl : Loc := ⟨w.heap.size, 0, 1⟩
      have hgr := hH.grow (w' := { w with heap := w.heap.push (.mapIter (some l.b) clock #[] clock) }) (x := .mapIter (some l.b) clock #[] clock) rfl (o := .miter (some m)) (l := nl) rfl
        ⟨m, l, clock, clock, rfl, Ext.upd (hH.fresh hp.next (Nat.le_refl _)) _ _ hl, by simp [nl], rfl⟩
      refine ⟨_, .value (.pointer (some ⟨w.heap.size, 0, none⟩)), .pointer (some ⟨w.heap.size, 0, none⟩), _, ?_, rfl, hgr.2.1, hgr.1, ?_, hgr.2.2⟩
      · simp [execOp, ho, Instr.range, hu, e1, getObj_map hw]
      · simp only [VRel]
        exact ⟨nl, Inj.upd_self _ _ _, rfl⟩
    · cases h
  · cases h

theorem getObj_iter {P : Program} {b : Nat} {m : Option Nat} {since : Nat} {seen : Array Nat} {st : Nat} (h : w.heap[b]? = some (.mapIter m since seen st)) : (getObj b).run P w = .ok (.mapIter m since seen st) w := by
  simp only [getObj, Sem.run]
  rw [h]

theorem next_sound {x : Operand} {s : Bool} (hT : TabOk T) (ho : o.op = .next x s) (hev : Ops ρ env ev [x]) (hH : HRel ρ hp w base)
    (h : opNext x s T env hp = some (.val v hp')) : Res T base ρ hp w (execOp ev o) v hp' := by
  unfold opNext at h
  split at h
  · rename_i r hx
    have hx' := hev x (by simp) _ hx
    simp only [VRel] at hx'
    obtain ⟨lr, hlr, e1⟩ := hx'
    split at h
    · rename_i m hr
      split at h
      · rename_i clock hm
        simp only [Option.some.injEq, ARes.val.injEq] at h
        obtain ⟨rfl, rfl⟩ := h
        obtain ⟨l, hl, _, i, lm, since, stepped, e2, hlm, hw, h0⟩ := hH.obj r _ hr
        cases e2
        rw [hlr] at hl; cases hl
        obtain ⟨l', es', hl', hw', hes⟩ := heap_map hH hm
        rw [hlm] at hl'; cases hl'
        have hz : es' = #[] := by
          simp only [EsRel] at hes
          exact Array.toList_eq_nil_iff.1 hes
        subst hz
        refine .pure hH (v' := .tuple #[.bool false]) ?_ ?_
        · have e1' : ev x = .pointer (some ⟨lr.b, 0, none⟩) := by rw [e1, h0]
          simp [execOp, ho, Instr.next, e1', getObj_iter hw, getObj_map hw', Question.forced]
        · simp only [VRel]
          exact ⟨_, rfl, .cons (raw_mk rfl) .nil⟩
      · cases h
    · cases h
  · cases h

end
end Go.Ab
