/-
  EACH OPERATION OF THE ABSTRACT MACHINE IS ONE OF THE MODEL's (maps).
-/
import Derived.Test.YtmnepjoaggdhpabGreatAbS10
set_option linter.unusedVariables false
namespace Go.Ab

theorem bytes_ext {a b : ByteArray} (h : a.toList = b.toList) : a = b := by
  rw [ByteArray.toList_eq, ByteArray.toList_eq] at h
  exact ByteArray.ext (Array.toList_inj.1 h)

theorem scalEq_true {a b : Value} (h : scalEq a b = some true) : a = b := by
  unfold scalEq at h
  split at h
  · split at h
    · rename_i hk
      rw [kindEq_iff] at hk
      have hk' := of_decide_eq_true hk
      simp only [Option.some.injEq, intEq_eq] at h
      have h' := of_decide_eq_true h
      subst hk'; subst h'; rfl
    · cases h
  · simp only [Option.some.injEq, strEq_eq] at h
    have h' := bytes_ext (eq_of_beq h)
    subst h'; rfl
  · simp at h; rw [h]
  · cases h

theorem intsEq_true {a b : Value} (h : intsEq a b = some true) : a = b := by
  unfold intsEq at h
  split at h
  · split at h
    · rename_i hk
      rw [kindEq_iff] at hk
      have hk' := of_decide_eq_true hk
      simp only [Option.some.injEq, intEq_eq] at h
      have h' := of_decide_eq_true h
      subst hk'; subst h'; rfl
    · cases h
  · cases h

theorem beq_bytes (a b : ByteArray) : (a == b) = decide (a = b) := by
  rw [Bool.eq_iff_iff]
  constructor
  · intro h
    have h' : (a.data == b.data) = true := h
    rw [beq_iff_eq] at h'
    simpa using ByteArray.ext h'
  · intro h
    have h' := of_decide_eq_true h
    subst h'
    show (a.data == a.data) = true
    exact beq_self_eq_true _

theorem keysEq_true : ∀ {as bs : List AV}, keysEq as bs = some true → as = bs
  | [], [], _ => rfl
  | [], _ :: _, h => by simp [keysEq] at h
  | a :: as, [], h => by unfold keysEq at h; split at h <;> simp_all
  | a :: as, b :: bs, h => by
    unfold keysEq at h
    split at h
    · simp_all
    · rename_i x xs y ys e1 e2
      cases e1; cases e2
      split at h
      · rename_i he
        have h1 := intsEq_true he
        have h2 := keysEq_true h
        subst h1; subst h2; rfl
      · split at h <;> cases h
      · cases h
    · cases h

theorem keyEq_true {k k' : AV} (h : keyEq k k' = some true) : k = k' := by
  unfold keyEq at h
  split at h
  · rw [scalEq_true h]
  · rw [keysEq_true h]
  · cases h

section
variable {T : Tab} {base : Nat → Prop} {ρ : Inj} {env : Tr AV} {hp hp' : Hp} {w : World} {ev : Operand → Value} {o : Oper} {v : AV}

/-- What the machine found, and the model. -/
def Found (ρ : Inj) (i : Nat) (l : List MapEntry) : Option (Nat × AV × Nat) → Option (Nat × Value) → Prop
  | none, r => r = none
  | some (j, v, b), r => ∃ v' e, r = some (j, v') ∧ i ≤ j ∧ l[j - i]? = some e ∧ e.val = v' ∧ e.born = b ∧ VRel ρ v v'

theorem Found.next {i : Nat} {l : List MapEntry} {e : MapEntry} {r : Option (Nat × AV × Nat)} {r' : Option (Nat × Value)} (h : Found ρ (i + 1) l r r') : Found ρ i (e :: l) r r' := by
  cases r with
  | none => exact h
  | some x =>
    obtain ⟨j, v, b⟩ := x
    obtain ⟨v', f, h1, h2, h3, h4⟩ := h
    refine ⟨v', f, h1, by omega, ?_, h4⟩
    rw [show j - i = (j - (i + 1)) + 1 by omega]
    simpa using h3

theorem findNow_int {kd : IntKind} {kd' : IntKind} {n : Int} : ∀ {es : List (AV × AV × Nat)} {l : List MapEntry} {i : Nat} {r : Option (Nat × AV × Nat)}, EsRel ρ es l → findA (.raw (.int kd n)) es i = some r →
    ∃ r', Instr.findNow (.int kd') (.int kd n) l i = some r' ∧ Found ρ i l r r'
  | [], l, i, r, he, h => by
    simp only [EsRel] at he; subst he
    simp [findA] at h; subst h
    exact ⟨none, rfl, rfl⟩
  | (k, v, b) :: es, l, i, r, he, h => by
    simp only [EsRel] at he
    obtain ⟨k', v', l', rfl, hk, hv, hes⟩ := he
    simp only [findA] at h
    split at h
    · rename_i hke
      cases h
      have e := keyEq_true hke
      subst e
      have ek := raw_rel hk
      subst ek
      exact ⟨some (i, v'), by simp [Instr.findNow, Instr.sameNow], v', ⟨.int kd n, v', b⟩, rfl, Nat.le_refl _, by simp, rfl, rfl, hv⟩
    · rename_i hke
      obtain ⟨r', h1, h2⟩ := findNow_int (kd' := kd') hes h
      refine ⟨r', ?_, h2.next⟩
      unfold keyEq at hke
      split at hke
      · rename_i a b' e1
        cases e1
        unfold scalEq at hke
        split at hke
        · rename_i e1
          cases e1
          split at hke
          · rename_i hkk
            rw [kindEq_iff] at hkk
            have hkk' := of_decide_eq_true hkk
            have ek := raw_rel hk
            subst ek; subst hkk'
            simp only [Option.some.injEq, intEq_eq] at hke
            have hne := of_decide_eq_false hke
            have hb := beq_eq_false_iff_ne.2 hne
            simp [Instr.findNow, Instr.sameNow, hb, h1]
          · cases hke
        · simp_all
        · simp_all
        · cases hke
      · simp_all
      · cases hke
    · cases h

theorem findNow_str {s : ByteArray} : ∀ {es : List (AV × AV × Nat)} {l : List MapEntry} {i : Nat} {r : Option (Nat × AV × Nat)}, EsRel ρ es l → findA (.raw (.string s)) es i = some r →
    ∃ r', Instr.findNow .string (.string s) l i = some r' ∧ Found ρ i l r r'
  | [], l, i, r, he, h => by
    simp only [EsRel] at he; subst he
    simp [findA] at h; subst h
    exact ⟨none, rfl, rfl⟩
  | (k, v, b) :: es, l, i, r, he, h => by
    simp only [EsRel] at he
    obtain ⟨k', v', l', rfl, hk, hv, hes⟩ := he
    simp only [findA] at h
    split at h
    · rename_i hke
      cases h
      have e := keyEq_true hke
      subst e
      have ek := raw_rel hk
      subst ek
      exact ⟨some (i, v'), by simp [Instr.findNow, Instr.sameNow, beq_bytes], v', ⟨.string s, v', b⟩, rfl, Nat.le_refl _, by simp, rfl, rfl, hv⟩
    · rename_i hke
      obtain ⟨r', h1, h2⟩ := findNow_str hes h
      refine ⟨r', ?_, h2.next⟩
      unfold keyEq at hke
      split at hke
      · rename_i a b' e1
        cases e1
        unfold scalEq at hke
        split at hke
        · simp_all
        · rename_i e1
          cases e1
          have ek := raw_rel hk
          subst ek
          simp only [Option.some.injEq, strEq_eq] at hke
          rename_i s'
          have hne : (s == s') = false := by
            rw [beq_bytes]
            apply decide_eq_false
            intro e; subst e; simp at hke
          simp [Instr.findNow, Instr.sameNow, hne, h1]
        · simp_all
        · cases hke
      · simp_all
      · cases hke
    · cases h

theorem findAsking_agg {kt : TypeId} {as : List AV} {ks : Array Value} {n : Nat} (hP : PlainT T.P kt n) (hn : as.length = n) (hks : VsRel ρ as ks.toList) : ∀ {es : List (AV × AV × Nat)} {l : List MapEntry} {i : Nat} {r : Option (Nat × AV × Nat)}, EsRel ρ es l → findA (.agg as) es i = some r →
    ∃ r', (Instr.findAsking kt (.agg ks) l i).run T.P w = .ok r' w ∧ Found ρ i l r r'
  | [], l, i, r, he, h => by
    simp only [EsRel] at he; subst he
    simp [findA] at h; subst h
    exact ⟨none, by simp [Instr.findAsking], rfl⟩
  | (k, v, b) :: es, l, i, r, he, h => by
    simp only [EsRel] at he
    obtain ⟨k', v', l', rfl, hk, hv, hes⟩ := he
    simp only [findA] at h
    have hkk : ∀ {bs : List AV} {r : Bool}, k = .agg bs → keysEq as bs = some r → (Op.equal kt (.agg ks) k').run T.P w = .ok r w := by
      intro bs r e hr
      subst e
      simp only [VRel] at hk
      obtain ⟨c, rfl, h1, _⟩ := hk
      exact hP.eq as bs ks c r ρ w hn hr hks h1
    split at h
    · rename_i hke
      cases h
      unfold keyEq at hke
      split at hke
      · simp_all
      · rename_i e1
        cases e1
        exact ⟨some (i, v'), by simp [Instr.findAsking, hkk rfl hke], v', ⟨k', v', b⟩, rfl, Nat.le_refl _, by simp, rfl, rfl, hv⟩
      · cases hke
    · rename_i hke
      obtain ⟨r', h1, h2⟩ := findAsking_agg hP hn hks hes h
      refine ⟨r', ?_, h2.next⟩
      unfold keyEq at hke
      split at hke
      · simp_all
      · rename_i e1
        cases e1
        simp [Instr.findAsking, hkk rfl hke, h1]
      · cases hke
    · cases h

theorem findKey_rel {kt : TypeId} {k : AV} {kv : Value} {es : List (AV × AV × Nat)} {l : List MapEntry} {r : Option (Nat × AV × Nat)} (hT : TabOk T) (hok : keyOk T kt k = true) (hk : VRel ρ k kv) (he : EsRel ρ es l)
    (h : findA k es 0 = some r) : ∃ r', (Instr.findKey kt kv l).run T.P w = .ok r' w ∧ Found ρ 0 l r r' := by
  unfold keyOk at hok
  split at hok
  · rename_i ti hti
    have hu := (hT.ty kt ti hti).run_und w
    split at hok
    · rename_i kd kd' n hund
      rw [hund] at hu
      have e := raw_rel hk
      subst e
      obtain ⟨r', h1, h2⟩ := findNow_int (kd' := kd) he h
      exact ⟨r', by simp [Instr.findKey, hu, h1], h2⟩
    · rename_i s hund
      rw [hund] at hu
      have e := raw_rel hk
      subst e
      obtain ⟨r', h1, h2⟩ := findNow_str he h
      exact ⟨r', by simp [Instr.findKey, hu, h1], h2⟩
    · rename_i fs as hund
      rw [hund] at hu
      split at hok
      · rw [Bool.and_eq_true] at hok
        have hP := (hT.ty kt ti hti).plain hok.1
        have hn := Nat.eq_of_beq_eq_true hok.2
        simp only [VRel] at hk
        obtain ⟨ks, rfl, hks, _⟩ := hk
        obtain ⟨r', h1, h2⟩ := findAsking_agg (w := w) hP hn hks he h
        cases l with
        | nil =>
          refine ⟨r', ?_, h2⟩
          simp [Instr.findAsking] at h1
          simp [Instr.findKey, hu, Instr.findNow, h1]
        | cons e l =>
          refine ⟨r', ?_, h2⟩
          simp [Instr.findKey, hu, Instr.findNow, Instr.sameNow, h1]
      · cases hok
    · cases hok
  · cases hok

theorem checkKey_run {kt : TypeId} {k : AV} {kv : Value} (hT : TabOk T) (hok : keyOk T kt k = true) (hk : VRel ρ k kv) (e : Bool) : (Instr.checkKey e 10000 kt kv).run T.P w = .ok () w := by
  unfold keyOk at hok
  split at hok
  · rename_i ti hti
    have hu := (hT.ty kt ti hti).run_und w
    split at hok
    · rename_i kd kd' n hund
      rw [hund] at hu
      have e := raw_rel hk
      subst e
      rw [show (10000 : Nat) = 9999 + 1 from rfl, Instr.checkKey]
      simp [hu]
    · rename_i s hund
      rw [hund] at hu
      have e := raw_rel hk
      subst e
      rw [show (10000 : Nat) = 9999 + 1 from rfl, Instr.checkKey]
      simp [hu]
    · rename_i fs as hund
      split at hok
      · rename_i hkk
        rw [Bool.and_eq_true] at hok
        have hP := (hT.ty kt ti hti).plain hok.1
        simp only [VRel] at hk
        obtain ⟨ks, rfl, hks, _⟩ := hk
        exact hP.key as as ks _ ρ w e (Nat.eq_of_beq_eq_true hok.2) hkk hks
      · cases hok
    · cases hok
  · cases hok

theorem zeroA_rel {t : TypeId} {z : AV} (hT : TabOk T) (h : zeroA T t = some z) : ∃ v, (zeroValue t).run T.P w = .ok v w ∧ VRel ρ z v := by
  unfold zeroA at h
  split at h
  · rename_i ti hti
    obtain ⟨i, hi, _, _, h3⟩ := (hT.ty t ti hti).run_info w
    split at h
    · rename_i z' hagg hz
      cases h
      obtain ⟨v, hv, hl, h1, _⟩ := h3 _ hz
      obtain ⟨c, rfl⟩ := h1 hagg
      have := leaves_rel (ρ := ρ) hl
      exact ⟨.agg c, by simp [zeroValue, hi, hv], by simp only [VRel]; exact ⟨c, rfl, this.1, this.2⟩⟩
    · rename_i z' hagg hz
      cases h
      obtain ⟨v, hv, hl, _, h2⟩ := h3 _ hz
      have h1 := h2 hagg
      have := leaves_rel (ρ := ρ) hl
      rw [oneCell_cells h1] at this
      obtain ⟨v', vs, e, hr, _⟩ := this.1.cons_inv
      simp at e
      obtain ⟨rfl, _⟩ := e
      exact ⟨_, by simp [zeroValue, hi, hv], hr⟩
    · cases h
  · cases h

theorem lookup_reads {t : TypeId} {x ix : Operand} {ok : Bool} (hT : TabOk T) (ho : o.op = .lookup t x ix ok) (hev : Ops ρ env ev [x, ix]) (hH : HRel ρ hp w base)
    (h : opLookup t x ix ok T env hp = some (.val v hp')) : ReadsTo T base ρ hp w (execOp ev o) v hp' := by
  unfold opLookup at h
  split at h
  · rename_i i k ti hx hk hti
    have hx' := hev x (by simp) _ hx
    have hk' := hev ix (by simp) _ hk
    have hu := (hT.ty t ti hti).run_und w
    split at h
    · rename_i kt et hund
      rw [hund] at hu
      split at h
      · rename_i es clock hok hi
        obtain ⟨l, es', hl, hw, hes⟩ := heap_map hH hi
        simp only [VRel] at hx'
        obtain ⟨l', hl', e1⟩ := hx'
        rw [hl] at hl'; cases hl'
        have hck := checkKey_run (w := w) hT hok hk' es'.isEmpty
        split at h
        · rename_i j b hf
          obtain ⟨r', hr, hF⟩ := findKey_rel (w := w) hT hok hk' hes hf
          obtain ⟨v', e, rfl, _, _, _, _, hv⟩ := hF
          split at h
          · simp only [Option.some.injEq, ARes.val.injEq] at h
            obtain ⟨rfl, rfl⟩ := h
            refine .pure hH (v' := .tuple #[v', .bool true]) (by simp [execOp, ho, Instr.lookup, hu, e1, getObj_map hw, hck, hr]) ?_
            simp only [VRel]
            exact ⟨_, rfl, .cons hv (.cons (raw_mk rfl) .nil)⟩
          · simp only [Option.some.injEq, ARes.val.injEq] at h
            obtain ⟨rfl, rfl⟩ := h
            exact .pure hH (v' := v') (by simp [execOp, ho, Instr.lookup, hu, e1, getObj_map hw, hck, hr]) hv
        · rename_i hf
          obtain ⟨r', hr, hF⟩ := findKey_rel (w := w) hT hok hk' hes hf
          have hF' : r' = none := hF
          subst hF'
          split at h
          · rename_i z hz
            obtain ⟨zv, hzv, hzr⟩ := zeroA_rel (w := w) (ρ := ρ) hT hz
            simp only [Option.some.injEq, ARes.val.injEq] at h
            obtain ⟨rfl, rfl⟩ := h
            refine .pure hH (v' := .tuple #[zv, .bool false]) (by simp [execOp, ho, Instr.lookup, hu, e1, getObj_map hw, hck, hr, hzv]) ?_
            simp only [VRel]
            exact ⟨_, rfl, .cons hzr (.cons (raw_mk rfl) .nil)⟩
          · rename_i z hz
            obtain ⟨zv, hzv, hzr⟩ := zeroA_rel (w := w) (ρ := ρ) hT hz
            simp only [Option.some.injEq, ARes.val.injEq] at h
            obtain ⟨rfl, rfl⟩ := h
            exact .pure hH (v' := zv) (by simp [execOp, ho, Instr.lookup, hu, e1, getObj_map hw, hck, hr, hzv]) hzr
          · cases h
        · cases h
      · cases h
    · cases h
  · cases h

theorem lookup_sound {t : TypeId} {x ix : Operand} {ok : Bool} (hT : TabOk T) (ho : o.op = .lookup t x ix ok) (hev : Ops ρ env ev [x, ix]) (hH : HRel ρ hp w base)
    (h : opLookup t x ix ok T env hp = some (.val v hp')) : Res T base ρ hp w (execOp ev o) v hp' := (lookup_reads hT ho hev hH h).res

end
end Go.Ab
