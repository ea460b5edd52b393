/-
  REGIONS IN ANY ORDER: an operation without effect that runs ahead of its turn.
-/
import Derived.Test.YtmnepjoaggdhpabGreatAbO2
set_option linter.unusedVariables false
namespace Go.Ab

section
variable {T : Tab} {rec : Rec} {nt : Nat} {ops : List Oper} {pl : List (Nat × Nat)} {E : Nat → Tr AV} {H : Nat → Hp} {S : Nat → List (Tr AObj)} {V : Nat → AV}
variable {base : Nat → Prop} {ρ₀ : Inj} {a₀ : Act} {w₀ : World} {L : Nat → Prop} {M : Nat} {ρ : Inj} {a : Act} {w : World}

/-- An operation of the region, the temporaries' values by name; one statement for all three outcomes. -/
theorem does_any {B : Nat → Prop} {env : Tr AV} {hp hp' : Hp} {o : Oper} {v : AV} {opsA : Array Oper} {i : Nat} {Q : Exit → Act → World → Prop} {K : Act → World → Prop} (hT : TabOk T) (hg : Good T rec) (hi : opsA[i]? = some o)
    (hev : Ops ρ env a.eval o.op.operands.toList)
    (hgd : ∀ g b oj d, o.guard = some (g, b) → opsA[g]? = some oj → oj.dst = some d → ∀ x, env.get d = some x → ∃ v, a.tmps[d]? = some v ∧ VRel ρ x v)
    (hH : HRel ρ hp w B) (hd : Does T rec opsA.toList o env hp v hp')
    (hK : ∀ ρ' v' w', ExtN hp.next ρ ρ' → HRel ρ' hp' w' B → VRel ρ' v v' → Fb B w w' → K (a.put o.dst v') w') : wpOp T.P opsA Q i K a w := by
  unfold wpOp
  rw [hi]
  dsimp only
  cases hd with
  | run hw hr =>
    rw [wanted_rel hgd hw]
    simp only [if_true]
    exact .inl (op_wp hT hg hev hH hr fun ρ' v' w' h1 _ h2 h3 h4 => hK ρ' v' w' h1 h2 h3 h4)
  | skip hw =>
    rw [wanted_rel hgd hw]
    simp only [Bool.false_eq_true, if_false]
    exact hK ρ undef w (ExtN.refl _ _) hH (undef_rel ρ) (Fb.refl _ _)

/-- One that only reads. -/
theorem reads_any {B : Nat → Prop} {env : Tr AV} {hp hp' : Hp} {o : Oper} {v : AV} {opsA : Array Oper} {i : Nat} {Q : Exit → Act → World → Prop} {K : Act → World → Prop} (hT : TabOk T) (hi : opsA[i]? = some o)
    (hev : Ops ρ env a.eval o.op.operands.toList)
    (hgd : ∀ g b oj d, o.guard = some (g, b) → opsA[g]? = some oj → oj.dst = some d → ∀ x, env.get d = some x → ∃ v, a.tmps[d]? = some v ∧ VRel ρ x v)
    (hH : HRel ρ hp w B) (hw : wantedA o.guard opsA.toList env = some true) (he : isEff T o.op = false) (hl : isLoad T o.op = true) (hv : opA o.op T env hp = some (.val v hp'))
    (hK : ∀ v', VRel ρ v v' → K (a.put o.dst v') w) : wpOp T.P opsA Q i K a w := by
  unfold wpOp
  rw [hi]
  dsimp only
  rw [wanted_rel hgd hw]
  simp only [if_true]
  obtain ⟨_, _, v', h1, h2⟩ := opA_reads hT hev hH he hl hv
  refine .inl ?_
  unfold Oper.wp
  rw [h1, Oper.upon_value]
  exact hK v' h2

theorem Writes.mem {m i : Nat} {t : Tmp} (h : Writes ops pl m i t) : ∃ lo, pl[m]? = some (i, lo) := let ⟨lo, _, h1, _⟩ := h; ⟨lo, h1⟩

/-- What an operation looks at is there, as in the canonical order. -/
theorem Inv.reads (hP : PlanOk T ops pl) (hr : MonoR rec) (hT : TraceOk T rec nt ops pl E H S V) (h : Inv T nt ops pl E H S V base ρ₀ a₀ w₀ L M ρ a w) {m i lo : Nat} {o : Oper} (hm : pl[m]? = some (i, lo)) (ho : ops[i]? = some o)
    (hL : ¬ L i) (hcl : ∀ x, Bef ops x i → L x) {t : Tmp} (ht : t ∈ looks ops o) {x : AV} (hx : (E m).get t = some x) : ∃ v, a.tmps[t]? = some v ∧ VRel (ρ.below (H m).next) x v := by
  have hlt := slot_lt hm
  rcases hT.env (by omega) hx with ⟨m', i', h1, h2, rfl⟩ | ⟨h1, h2⟩
  · obtain ⟨lo', oi, g1, g2, g3⟩ := h2
    rcases hP.haz i o t i' oi ho ht g2 g3 with rfl | hb | hb
    · have := hP.one _ _ _ _ _ g1 hm
      omega
    · obtain ⟨v, hv, hrel⟩ := h.wrote m' i' t ⟨lo', oi, g1, g2, g3⟩ (hcl i' hb)
      exact ⟨v, hv, hrel.mono (below_ext (fun _ _ _ h => h) (hT.next hr (by omega) (by omega)))⟩
    · obtain ⟨m1, lo1, g4, g5⟩ := hP.lin hb g1
      have := hP.one _ _ _ _ _ g5 hm
      omega
  · obtain ⟨v, hv, hrel⟩ := h.kept t x (fun m' i' hw hLi => by
      obtain ⟨lo', oi, g1, g2, g3⟩ := hw
      have hge : ¬ m' < m := fun hlt' => h1 m' i' hlt' ⟨lo', oi, g1, g2, g3⟩
      rcases hP.haz i o t i' oi ho ht g2 g3 with rfl | hb | hb
      · exact hL hLi
      · obtain ⟨m1, lo1, g4, g5⟩ := hP.lin hb hm
        have := hP.one _ _ _ _ _ g5 g1
        omega
      · exact hL (h.down _ _ hb hLi)) h2
    exact ⟨v, hv, hrel.mono (below_ext (fun _ _ _ h => h) (hT.next hr (by omega) (by omega)))⟩

theorem eval_at {env : Tr AV} {x : Operand} {v : AV} (h : ∀ t, x = .tmp t → ∀ u, env.get t = some u → ∃ v', a.tmps[t]? = some v' ∧ VRel ρ u v') (hx : eval x env = some v) : VRel ρ v (a.eval x) := by
  cases x with
  | tmp t =>
    obtain ⟨v', h1, h2⟩ := h t rfl v hx
    have : a.eval (.tmp t) = v' := by simp [Act.eval, h1]
    rw [this]; exact h2
  | const c => exact ofConst_rel hx
  | global g => simp [eval] at hx
  | func f =>
    simp [eval] at hx; subst hx
    simp [VRel, Act.eval, VsRel]

theorem Inv.operands (hP : PlanOk T ops pl) (hr : MonoR rec) (hT : TraceOk T rec nt ops pl E H S V) (h : Inv T nt ops pl E H S V base ρ₀ a₀ w₀ L M ρ a w) {m i lo : Nat} {o : Oper} (hm : pl[m]? = some (i, lo)) (ho : ops[i]? = some o)
    (hL : ¬ L i) (hcl : ∀ x, Bef ops x i → L x) : Ops (ρ.below (H m).next) (E m) a.eval o.op.operands.toList := by
  intro x hx v hv
  refine eval_at (fun t e u hu => ?_) hv
  subst e
  exact h.reads hP hr hT hm ho hL hcl (List.mem_append_left _ (List.mem_filterMap.2 ⟨.tmp t, hx, rfl⟩)) hu

theorem Inv.guards (hP : PlanOk T ops pl) (hr : MonoR rec) (hT : TraceOk T rec nt ops pl E H S V) (h : Inv T nt ops pl E H S V base ρ₀ a₀ w₀ L M ρ a w) {m i lo : Nat} {o : Oper} (hm : pl[m]? = some (i, lo)) (ho : ops[i]? = some o)
    (hL : ¬ L i) (hcl : ∀ x, Bef ops x i → L x) : ∀ g b oj d, o.guard = some (g, b) → ops[g]? = some oj → oj.dst = some d → ∀ x, (E m).get d = some x → ∃ v, a.tmps[d]? = some v ∧ VRel (ρ.below (H m).next) x v := by
  intro g b oj d hg hoj hd x hx
  refine h.reads hP hr hT hm ho hL hcl (List.mem_append_right _ ?_) hx
  rw [hg]
  simp [hoj, hd]

/-- The blocks that nothing speaks of. -/
def Free (pl : List (Nat × Nat)) (H : Nat → Hp) (L : Nat → Prop) (M : Nat) (ρ : Inj) (base : Nat → Prop) (b : Nat) : Prop :=
  Rest pl H L M ρ base b ∧ ∀ j p l, (H M).h.get j = some p → ρ j = some l → l.b ≠ b

theorem Inv.free_size (h : Inv T nt ops pl E H S V base ρ₀ a₀ w₀ L M ρ a w) (b : Nat) (hb : w.heap.size ≤ b) : Free pl H L M ρ base b := by
  refine ⟨h.heap.size b hb, fun j p l hj hl e => ?_⟩
  obtain ⟨l', hl', _, ho⟩ := h.heap.obj j p hj
  rw [(cut_some hl').2] at hl; cases hl
  have := ho.lt
  omega

theorem put_get {a : Act} {dst : Option Tmp} {v : Value} {t : Tmp} (h : dst ≠ some t) : (a.put dst v).tmps[t]? = a.tmps[t]? := by
  cases dst with
  | none => rfl
  | some d =>
    simp only [Act.put]
    rw [Array.getElem?_setIfInBounds_ne (fun e => h (by rw [e]))]

theorem put_self {a : Act} {v : Value} {t : Tmp} (h : t < a.tmps.size) : (a.put (some t) v).tmps[t]? = some v := by
  simp only [Act.put]
  rw [Array.getElem?_setIfInBounds_self_of_lt h]

/-- An operation without effect has run ahead of its turn. -/
theorem Inv.early (hP : PlanOk T ops pl) (hr : MonoR rec) (hT : TraceOk T rec nt ops pl E H S V) (h : Inv T nt ops pl E H S V base ρ₀ a₀ w₀ L M ρ a w) {m i lo : Nat} {o : Oper} (hm : pl[m]? = some (i, lo)) (ho : ops[i]? = some o)
    (hMm : M ≤ m) (hne : isEff T o.op = false) (hL : ¬ L i) (hcl : ∀ x, Bef ops x i → L x) (hdst : ∀ d, o.dst = some d → d < nt) {ρ' : Inj} {v' : Value} {w' : World} (hρ : ∀ j, j ≠ (H m).next → ρ' j = ρ j)
    (hnew : (H (m + 1) = H m ∧ ρ' = ρ) ∨ ∃ O l, New H m O ∧ ρ' (H m).next = some l ∧ Free pl H L M ρ base l.b ∧ ORel (ρ'.below (H (m + 1)).next) w' l O)
    (hv : VRel (ρ'.below (H (m + 1)).next) (V m) v') (hfb : Fb (Free pl H L M ρ base) w w') :
    Inv T nt ops pl E H S V base ρ₀ a₀ w₀ (fun x => x = i ∨ L x) M ρ' (a.put o.dst v') w' := by
  have hlt := slot_lt hm
  have hMn : (H M).next ≤ (H m).next := hT.next hr hMm (by omega)
  -- other slots
  have other : ∀ {m' i' lo' : Nat}, pl[m']? = some (i', lo') → L i' → m' ≠ m := fun hm' hL' e => by
    subst e; rw [hm] at hm'; cases hm'; exact hL hL'
  have otherN : ∀ {m' i' lo' : Nat} {O O' : AObj}, pl[m']? = some (i', lo') → L i' → New H m' O' → New H m O → (H m').next ≠ (H m).next := fun {m' i' lo' O O'} hm' hL' hN' hN e => by
    have hne' := other hm' hL'
    have hlt' := slot_lt hm'
    have h1 := hN'.next
    have h2 := hN.next
    rcases Nat.lt_or_ge m' m with hc | hc
    · have := hT.next hr (m := m' + 1) (m' := m) (by omega) (by omega)
      omega
    · have := hT.next hr (m := m + 1) (m' := m') (by omega) (by omega)
      omega
  have pend_old : ∀ {m' O'}, Pend pl H (fun x => x = i ∨ L x) M m' O' → m' = m ∨ Pend pl H L M m' O' := fun {m' O'} ⟨h1, ⟨i', lo', h2, h3⟩, h4⟩ => by
    rcases h3 with rfl | h3
    · exact .inl (hP.one _ _ _ _ _ h2 hm)
    · exact .inr ⟨h1, ⟨i', lo', h2, h3⟩, h4⟩
  have pend_up : ∀ {m' O'}, Pend pl H L M m' O' → Pend pl H (fun x => x = i ∨ L x) M m' O' := fun {m' O'} ⟨h1, ⟨i', lo', h2, h3⟩, h4⟩ => ⟨h1, ⟨i', lo', h2, .inr h3⟩, h4⟩
  have nopend : H (m + 1) = H m → ∀ O, ¬ New H m O := fun e O hn => by
    have := hn.next
    rw [e] at this; omega
  -- the new name was free
  have hfree : ∀ O, New H m O → ρ (H m).next = none := fun O hN => by
    cases e : ρ (H m).next with
    | none => rfl
    | some l =>
      rcases h.names _ l e with hlt' | ⟨m', O', ⟨_, ⟨i', lo', g2, g3⟩, g4⟩, g5⟩
      · exact absurd (Nat.lt_of_lt_of_le hlt' hMn) (Nat.lt_irrefl _)
      · exact absurd g5.symm (otherN g2 g3 g4 hN)
  have hext : ∀ j l, ρ j = some l → ρ' j = some l := fun j l hj => by
    rcases hnew with ⟨_, e⟩ | ⟨O, l', hN, _⟩
    · rw [e]; exact hj
    · rw [hρ j (fun e => by rw [e, hfree O hN] at hj; cases hj)]; exact hj
  have hcut : ∀ N, Ext (ρ.below N) (ρ'.below N) := fun N => below_ext (fun j l _ hj => hext j l hj) (Nat.le_refl _)
  have hpn : ∀ {m' O'}, Pend pl H L M m' O' → ρ' (H m').next = ρ (H m').next := fun {m' O'} hp => by
    obtain ⟨l, hl, _⟩ := h.pend m' O' hp
    rw [hext _ _ hl, hl]
  -- the new block
  have newl : ∀ {O}, Pend pl H (fun x => x = i ∨ L x) M m O → ∃ l, ρ' (H m).next = some l ∧ Free pl H L M ρ base l.b ∧ ORel (ρ'.below (H (m + 1)).next) w' l O := fun {O} hp => by
    rcases hnew with ⟨e, _⟩ | ⟨O', l, hN, h1, h2, h3⟩
    · exact absurd hp.2.2 (nopend e O)
    · have hO : O = O' := by
        have e : (⟨(H m).h.put (H m).next O, (H m).next + 1⟩ : Hp) = ⟨(H m).h.put (H m).next O', (H m).next + 1⟩ := (Eq.symm hp.2.2).trans hN
        have e2 := congrArg (fun x : Hp => x.h.get (H m).next) e
        simpa [Tr.get_put] using e2
      subst hO
      exact ⟨l, h1, h2, h3⟩
  have keptB : ∀ {b : Nat}, ¬ Free pl H L M ρ base b → w'.heap[b]? = w.heap[b]? := fun hb => hfb.heap _ hb
  exact {
    le := h.le
    pre := fun m' i' lo' hm' hp => .inr (h.pre m' i' lo' hm' hp)
    eff := fun m' i' lo' o' hm' hp ho' hL' => by
      rcases hL' with rfl | hL'
      · rw [ho] at ho'; cases ho'; exact hne
      · exact h.eff m' i' lo' o' hm' hp ho' hL'
    down := fun x j hb hj => by
      rcases hj with rfl | hj
      · exact .inr (hcl x hb)
      · exact .inr (h.down x j hb hj)
    wrote := fun m' i' t hw hL' => by
      by_cases e : i' = i
      · subst e
        obtain ⟨lo', oi, g1, g2, g3⟩ := hw
        have e2 := hP.one _ _ _ _ _ g1 hm
        subst e2
        rw [ho] at g2; cases g2
        refine ⟨v', ?_, hv⟩
        rw [g3]
        exact put_self (by rw [h.size]; exact hdst t g3)
      · have hLi : L i' := hL'.resolve_left e
        obtain ⟨v, h1, h2⟩ := h.wrote m' i' t hw hLi
        obtain ⟨lo', oi, g1, g2, g3⟩ := hw
        exact ⟨v, by rw [put_get fun e2 => e (hP.wr i' i oi o t g2 ho g3 e2)]; exact h1, h2.mono (hcut _)⟩
    kept := fun t x hn hx => by
      obtain ⟨v, h1, h2⟩ := h.kept t x (fun m' i' hw hL' => hn m' i' hw (.inr hL')) hx
      exact ⟨v, by rw [put_get fun e2 => hn m i ⟨lo, o, hm, ho, e2⟩ (.inl rfl)]; exact h1, h2.mono (hcut _)⟩
    size := by rw [put_size]; exact h.size
    heap := by
      refine ⟨fun j p hj => ?_, fun j k p q x y hj hk hx hy e => ?_, fun j hj => below_ge hj, fun b hb => ?_⟩
      · obtain ⟨l, hl, hb, hol⟩ := h.heap.obj j p hj
        refine ⟨l, hcut _ _ _ hl, ⟨hb.1, fun m' O' l' hp hl' e => ?_⟩, ?_⟩
        · rcases pend_old hp with rfl | hp'
          · obtain ⟨l2, g1, g2, _⟩ := newl hp
            rw [g1] at hl'; cases hl'
            exact g2.2 j p l hj (cut_some hl).2 e.symm
          · rw [hpn hp'] at hl'
            exact hb.2 m' O' l' hp' hl' e
        · exact (hol.of_block (keptB fun hf => hf.2 j p l hj (cut_some hl).2 rfl)).mono (hcut _)
      · obtain ⟨x', hx', _⟩ := h.heap.obj j p hj
        obtain ⟨y', hy', _⟩ := h.heap.obj k q hk
        rw [hcut _ _ _ hx'] at hx; cases hx
        rw [hcut _ _ _ hy'] at hy; cases hy
        exact h.heap.inj j k p q _ _ hj hk hx' hy' e
      · have hb0 := h.heap.size b (Nat.le_trans hfb.size hb)
        refine ⟨hb0.1, fun m' O' l' hp hl' e => ?_⟩
        rcases pend_old hp with rfl | hp'
        · obtain ⟨l2, g1, _, g3⟩ := newl hp
          rw [g1] at hl'; cases hl'
          have := g3.lt
          omega
        · rw [hpn hp'] at hl'
          exact hb0.2 m' O' l' hp' hl' e
    names := fun j l hj => by
      by_cases e : j = (H m).next
      · rcases hnew with ⟨_, e2⟩ | ⟨O, l', hN, _⟩
        · rw [e2] at hj
          rcases h.names j l hj with h1 | ⟨m', O', hp, h2⟩
          · exact .inl h1
          · exact .inr ⟨m', O', pend_up hp, h2⟩
        · exact .inr ⟨m, O, ⟨hMm, ⟨i, lo, hm, .inl rfl⟩, hN⟩, e⟩
      · rw [hρ j e] at hj
        rcases h.names j l hj with h1 | ⟨m', O', hp, h2⟩
        · exact .inl h1
        · exact .inr ⟨m', O', pend_up hp, h2⟩
    pend := fun m' O' hp => by
      rcases pend_old hp with rfl | hp'
      · obtain ⟨l, g1, g2, g3⟩ := newl hp
        exact ⟨l, g1, g2.1.1, g3⟩
      · obtain ⟨l, g1, g2, g3⟩ := h.pend m' O' hp'
        exact ⟨l, hext _ _ g1, g2, (g3.of_block (keptB fun hf => hf.1.2 m' O' l hp' g1 rfl)).mono (hcut _)⟩
    apart := fun m1 m2 O1 O2 l1 l2 hp1 hp2 hl1 hl2 e => by
      rcases pend_old hp1 with rfl | hp1' <;> rcases pend_old hp2 with rfl | hp2'
      · rfl
      · obtain ⟨l, g1, g2, _⟩ := newl hp1
        rw [g1] at hl1; cases hl1
        rw [hpn hp2'] at hl2
        exact absurd e.symm (g2.1.2 m2 O2 l2 hp2' hl2)
      · obtain ⟨l, g1, g2, _⟩ := newl hp2
        rw [g1] at hl2; cases hl2
        rw [hpn hp1'] at hl1
        exact absurd e (g2.1.2 m1 O1 l1 hp1' hl1)
      · rw [hpn hp1'] at hl1
        rw [hpn hp2'] at hl2
        exact h.apart m1 m2 O1 O2 l1 l2 hp1' hp2' hl1 hl2 e
    snap := h.snap
    ext := by
      refine ⟨fun j l hj => hext j l (h.ext.ext j l hj), fun j hj => ?_⟩
      have h0 : (H 0).next ≤ (H m).next := hT.next hr (Nat.zero_le _) (by omega)
      rw [hρ j (Nat.ne_of_lt (Nat.lt_of_lt_of_le hj h0))]
      exact h.ext.old j hj
    fb := h.fb.trans (hfb.wider fun b hb => hb.1.1)
    defers := by rw [put_defers]; exact h.defers }

end
end Go.Ab
