/-
  REGIONS IN ANY ORDER: each step keeps the invariant.
-/
import Derived.Test.YtmnepjoaggdhpabGreatAbO4
set_option linter.unusedVariables false
namespace Go.Ab

theorem stable_mem {T : Tab} {o : Op} {v : AV} {env : Tr AV} : ∀ {hs : List (Tr AObj)}, stable T o v env hs = true → ∀ h ∈ hs, ∃ hp', opA o T env ⟨h, 0⟩ = some (.val v hp')
  | [], _, _, hm => by cases hm
  | x :: hs, h, y, hm => by
    unfold stable at h
    split at h
    · rename_i v' hp' hv
      split at h
      · rename_i he
        have e := avEq_eq he
        subst e
        rcases List.mem_cons.1 hm with rfl | hm
        · exact ⟨hp', hv⟩
        · exact stable_mem h y hm
      · cases h
    · cases h

section
variable {T : Tab} {rec : Rec} {nt : Nat} {opsA : Array Oper} {pl : List (Nat × Nat)} {E : Nat → Tr AV} {H : Nat → Hp} {S : Nat → List (Tr AObj)} {V : Nat → AV}
variable {base : Nat → Prop} {ρ₀ : Inj} {a₀ : Act} {w₀ : World} {L : Nat → Prop} {M : Nat} {ρ : Inj} {a : Act} {w : World} {Q : Exit → Act → World → Prop} {K : Act → World → Prop}

/-- The new names, and the old ones from some number on. -/
def Inj.join (ρ' ρ : Inj) (N : Nat) : Inj := fun j => if j < N then ρ' j else ρ j

theorem nil_heap {B : Nat → Prop} {N : Nat} (hB : ∀ b, w.heap.size ≤ b → B b) : HRel (ρ.below N) ⟨.nil, N⟩ w B :=
  ⟨fun i o h => (by rw [show (Tr.nil : Tr AObj).get i = none from Tr.get_nil i] at h; cases h), fun i j o o' l l' h => (by rw [show (Tr.nil : Tr AObj).get i = none from Tr.get_nil i] at h; cases h), fun i hi => below_ge hi, hB⟩

theorem early_step (hT0 : TabOk T) (hg : Good T rec) (hP : PlanOk T opsA.toList pl) (hT : TraceOk T rec nt opsA.toList pl E H S V) (hS0 : (S 0).length = 1) (h : Inv T nt opsA.toList pl E H S V base ρ₀ a₀ w₀ L M ρ a w)
    {m i lo : Nat} {o : Oper} (hm : pl[m]? = some (i, lo)) (ho : opsA.toList[i]? = some o) (hMm : M ≤ m) (hne : isEff T o.op = false) (hL : ¬ L i) (hcl : ∀ x, Bef opsA.toList x i → L x)
    (hK : ∀ ρ' a' w', Inv T nt opsA.toList pl E H S V base ρ₀ a₀ w₀ (fun x => x = i ∨ L x) M ρ' a' w' → K a' w') : wpOp T.P opsA Q i K a w := by
  have hr := hg.mono
  obtain ⟨o', ho', hat, hdst, _⟩ := hT.step m i lo hm
  rw [ho] at ho'; cases ho'
  have hoA : opsA[i]? = some o := by rw [← toList_get]; exact ho
  have hops := h.operands hP hr hT hm ho hL hcl
  have hgd := h.guards hP hr hT hm ho hL hcl
  simp only [toList_get] at hgd
  have hnil : HRel (ρ.below (H m).next) ⟨.nil, (H m).next⟩ w (Free pl H L M ρ base) := nil_heap h.free_size
  have early := @Inv.early T rec nt opsA.toList pl E H S V base ρ₀ a₀ w₀ L M ρ a w hP hr hT h m i lo o hm ho hMm hne hL hcl hdst
  generalize hVm : V m = v at hat
  generalize hHm : H (m + 1) = H' at hat
  generalize hSm : S (m + 1) = S' at hat
  cases hat with
  | eff he _ => rw [hne] at he; cases he
  | skip _ hw =>
    refine does_any hT0 hg hoA hops hgd hnil (.skip hw) fun ρ' v' w' h1 h2 h3 h4 => hK ρ _ w' ?_
    have hρ : ρ' = ρ.below (H m).next := same_names h1 (fun j hj => below_ge hj) h2.fresh
    exact early (fun _ _ => rfl) (.inl ⟨hHm, rfl⟩) (by rw [hHm, hVm, ← hρ]; exact h3) h4
  | pure _ hl hw hv =>
    have hs := opA_same (T := T) (env := E m) (n := (H m).next) (m := (H m).h) (m' := .nil) hne hl
    rw [show opA o.op T (E m) ⟨(H m).h, (H m).next⟩ = some (.val v H') from hv] at hs
    generalize hr1 : (some (ARes.val v H') : Option ARes) = r1 at hs
    generalize hr2 : opA o.op T (E m) ⟨.nil, (H m).next⟩ = r2 at hs
    cases hs with
    | none => cases hr1
    | call f as => cases hr1
    | val u =>
      cases hr1
      refine does_any hT0 hg hoA hops hgd hnil (.run hw (.inl hr2)) fun ρ' v' w' h1 h2 h3 h4 => hK ρ _ w' ?_
      have hρ : ρ' = ρ.below (H m).next := same_names h1 (fun j hj => below_ge hj) h2.fresh
      exact early (fun _ _ => rfl) (.inl ⟨hHm, rfl⟩) (by rw [hHm, hVm, ← hρ]; exact h3) h4
    | new u O =>
      cases hr1
      refine does_any hT0 hg hoA hops hgd hnil (.run hw (.inl hr2)) fun ρ' v' w' h1 h2 h3 h4 => ?_
      have hN : New H m O := hHm
      obtain ⟨l, hl1, hl2, hl3⟩ := h2.obj (H m).next O (by rw [Tr.get_put, if_pos rfl])
      have hbn : (ρ.upd (H m).next l).below (H (m + 1)).next = ρ' := by
        rw [hN.next]
        funext j
        by_cases e : j = (H m).next
        · rw [below_lt (by rw [e]; exact Nat.lt_succ_self _), e, Inj.upd_self, hl1]
        · by_cases hj : j < (H m).next
          · rw [below_lt (Nat.lt_succ_of_lt hj), Inj.upd, if_neg e, h1.old j hj, below_lt hj]
          · have hj2 : (H m).next + 1 ≤ j := Nat.lt_of_le_of_ne (Nat.le_of_not_lt hj) (fun e2 => e e2.symm)
            rw [below_ge hj2, h2.fresh j hj2]
      refine hK (ρ.upd (H m).next l) _ w' (early (fun j hj => by unfold Inj.upd; exact if_neg hj) (.inr ⟨O, l, hN, Inj.upd_self _ _ _, hl2, ?_⟩) ?_ h4)
      · rw [hbn]; exact hl3
      · rw [hbn, hVm]; exact h3
  | load _ hl hw hv hst =>
    have hH : H' = H m := by
      have hs := opA_loads (T := T) (env := E m) (n := (H m).next) (n' := (H m).next) (m := (H m).h) hne hl
      rw [show opA o.op T (E m) ⟨(H m).h, (H m).next⟩ = some (.val v H') from hv] at hs
      generalize hr1 : (some (ARes.val v H') : Option ARes) = r1 at hs
      cases hs with
      | none => cases hr1
      | val u => cases hr1; rfl
    obtain ⟨hh, rest, hs1, hs2⟩ := h.snap
    have hmlt := slot_lt hm
    obtain ⟨new, hn1, hn2⟩ := hT.snaps hMm (by omega)
    obtain ⟨new0, hn3, hn4⟩ := hT.snaps (Nat.zero_le M) h.le
    have hlenM : (S M).length = effsTo T opsA.toList pl M + 1 := by
      rw [hn3, List.length_append, hS0, hn4]
      simp [effsTo]
    have hlo : lo ≤ effsTo T opsA.toList pl M := by
      rcases hP.lo m i lo hm with rfl | ⟨q, e, lo', oe, g1, g2, g3, g4, g5⟩
      · exact Nat.zero_le _
      · have hq : q < M := by
          rcases Nat.lt_or_ge q M with h' | h'
          · exact h'
          · have := h.eff q e lo' oe h' g1 g2 (hcl e g4)
            rw [g3] at this; cases this
        obtain ⟨new1, _, hn6⟩ := hT.snaps (m := q + 1) (m' := M) (by omega) h.le
        rw [← g5, hn6]; omega
    have hmem : hh ∈ (S m).take ((S m).length - lo) := by
      have hidx : (S m)[new.length]? = some hh := by rw [hn1, hs1]; simp
      have hlt : new.length < (S m).length - lo := by
        rw [hn1, List.length_append, hlenM]; omega
      rw [List.mem_iff_getElem?]
      exact ⟨new.length, by rw [List.getElem?_take, if_pos hlt]; exact hidx⟩
    obtain ⟨hp2, hv2⟩ := stable_mem hst hh hmem
    have hv3 : opA o.op T (E m) ⟨hh, (H m).next⟩ = some (.val v ⟨hh, (H m).next⟩) := by
      have hs := opA_loads (T := T) (env := E m) (n := 0) (n' := (H m).next) (m := hh) hne hl
      rw [hv2] at hs
      generalize hr1 : (some (ARes.val v hp2) : Option ARes) = r1 at hs
      generalize hr2 : opA o.op T (E m) ⟨hh, (H m).next⟩ = r2 at hs
      cases hs with
      | none => cases hr1
      | val u => cases hr1; exact hr2 ▸ rfl
    have hMn : (H M).next ≤ (H m).next := hT.next hr hMm (by omega)
    have hpart : HRel (ρ.below (H m).next) ⟨hh, (H m).next⟩ w (Rest pl H L M ρ base) :=
      h.heap.part hs2 (fun j l hj => below_ext (fun _ _ _ h => h) hMn j l hj) (fun j hj => below_ge hj)
    refine reads_any hT0 hoA hops hgd hpart hw hne hl hv3 fun v' hv' => hK ρ _ w ?_
    exact early (fun _ _ => rfl) (.inl ⟨by rw [hHm, hH], rfl⟩) (by rw [hHm, hH, hVm]; exact hv') (Fb.refl _ _)

/-- An effect, in its turn. -/
theorem effect_step (hT0 : TabOk T) (hg : Good T rec) (hP : PlanOk T opsA.toList pl) (hT : TraceOk T rec nt opsA.toList pl E H S V) (h : Inv T nt opsA.toList pl E H S V base ρ₀ a₀ w₀ L M ρ a w)
    {i lo : Nat} {o : Oper} (hm : pl[M]? = some (i, lo)) (ho : opsA.toList[i]? = some o) (he : isEff T o.op = true) (hL : ¬ L i) (hcl : ∀ x, Bef opsA.toList x i → L x)
    (hK : ∀ ρ' a' w', Inv T nt opsA.toList pl E H S V base ρ₀ a₀ w₀ (fun x => x = i ∨ L x) (M + 1) ρ' a' w' → K a' w') : wpOp T.P opsA Q i K a w := by
  have hr := hg.mono
  obtain ⟨o', ho', hat, hdst, _⟩ := hT.step M i lo hm
  rw [ho] at ho'; cases ho'
  have hlt := slot_lt hm
  have hoA : opsA[i]? = some o := by rw [← toList_get]; exact ho
  have hops := h.operands hP hr hT hm ho hL hcl
  have hgd := h.guards hP hr hT hm ho hL hcl
  simp only [toList_get] at hgd
  have hmono : (H M).next ≤ (H (M + 1)).next := hT.next1 hr hlt
  generalize hVm : V M = v at hat
  generalize hHm : H (M + 1) = H' at hat
  generalize hSm : S (M + 1) = S' at hat
  cases hat with
  | skip hn _ => rw [he] at hn; cases hn
  | pure hn _ _ _ => rw [he] at hn; cases hn
  | load hn _ _ _ _ => rw [he] at hn; cases hn
  | eff _ hd =>
    refine does_any hT0 hg hoA hops hgd h.heap hd fun ρ' v' w' h1 h2 h3 h4 => ?_
    subst hVm
    subst hHm
    refine hK (Inj.join ρ' ρ (H (M + 1)).next) _ w' ?_
    have hcut : (Inj.join ρ' ρ (H (M + 1)).next).below (H (M + 1)).next = ρ' := by
      funext j
      by_cases hj : j < (H (M + 1)).next
      · rw [below_lt hj, Inj.join, if_pos hj]
      · rw [below_ge (Nat.le_of_not_lt hj), h2.fresh j (Nat.le_of_not_lt hj)]
    -- pending ones come behind
    have behind : ∀ {m O}, Pend pl H L M m O → M + 1 ≤ m ∧ (H (M + 1)).next ≤ (H m).next := fun {m O} ⟨g1, ⟨i', lo', g2, g3⟩, g4⟩ => by
      have hne : m ≠ M := fun e => by subst e; rw [hm] at g2; cases g2; exact hL g3
      have hml := slot_lt g2
      exact ⟨by omega, hT.next hr (by omega) (by omega)⟩
    have hext : ∀ j l, ρ j = some l → (Inj.join ρ' ρ (H (M + 1)).next) j = some l := fun j l hj => by
      unfold Inj.join
      by_cases hlt' : j < (H (M + 1)).next
      · rw [if_pos hlt']
        rcases h.names j l hj with hb | ⟨m, O, hp, e⟩
        · exact h1.ext j l (by rw [below_lt hb]; exact hj)
        · exact absurd (Nat.lt_of_lt_of_le (by rw [e] at hlt'; exact hlt') (behind hp).2) (Nat.lt_irrefl _)
      · rw [if_neg hlt']; exact hj
    have hcutN : ∀ N, Ext (ρ.below N) ((Inj.join ρ' ρ (H (M + 1)).next).below N) := fun N => below_ext (fun j l _ hj => hext j l hj) (Nat.le_refl _)
    have pend_old : ∀ {m O}, Pend pl H (fun x => x = i ∨ L x) (M + 1) m O → Pend pl H L M m O := fun {m O} ⟨g1, ⟨i', lo', g2, g3⟩, g4⟩ => by
      refine ⟨by omega, ⟨i', lo', g2, g3.resolve_left fun e => ?_⟩, g4⟩
      subst e
      have := hP.one _ _ _ _ _ g2 hm
      omega
    have pend_up : ∀ {m O}, Pend pl H L M m O → Pend pl H (fun x => x = i ∨ L x) (M + 1) m O := fun {m O} hp => by
      have g := behind hp
      obtain ⟨g1, ⟨i', lo', g2, g3⟩, g4⟩ := hp
      exact ⟨g.1, ⟨i', lo', g2, .inr g3⟩, g4⟩
    have hpn : ∀ {m O}, Pend pl H L M m O → (Inj.join ρ' ρ (H (M + 1)).next) (H m).next = ρ (H m).next := fun {m O} hp => if_neg (Nat.not_lt.2 (behind hp).2)
    exact {
      le := hlt
      pre := fun m' i' lo' hm' hp => by
        by_cases e : m' = M
        · subst e; rw [hm] at hp; cases hp; exact .inl rfl
        · exact .inr (h.pre m' i' lo' (by omega) hp)
      eff := fun m' i' lo' o' hm' hp ho' hL' => by
        rcases hL' with rfl | hL'
        · have := hP.one _ _ _ _ _ hp hm
          omega
        · exact h.eff m' i' lo' o' (by omega) hp ho' hL'
      down := fun x j hb hj => by
        rcases hj with rfl | hj
        · exact .inr (hcl x hb)
        · exact .inr (h.down x j hb hj)
      wrote := fun m' i' t hw hL' => by
        by_cases e : i' = i
        · subst e
          obtain ⟨lo', oi, g1, g2, g3⟩ := hw
          have e2 := hP.one _ _ _ _ _ g1 hm
          subst e2
          rw [ho] at g2; cases g2
          refine ⟨v', ?_, by rw [hcut]; exact h3⟩
          rw [g3]
          exact put_self (by rw [h.size]; exact hdst t g3)
        · have hLi : L i' := hL'.resolve_left e
          obtain ⟨u, k1, k2⟩ := h.wrote m' i' t hw hLi
          obtain ⟨lo', oi, g1, g2, g3⟩ := hw
          exact ⟨u, by rw [put_get fun e2 => e (hP.wr i' i oi o t g2 ho g3 e2)]; exact k1, k2.mono (hcutN _)⟩
      kept := fun t x hn hx => by
        obtain ⟨u, k1, k2⟩ := h.kept t x (fun m' i' hw hL' => hn m' i' hw (.inr hL')) hx
        exact ⟨u, by rw [put_get fun e2 => hn M i ⟨lo, o, hm, ho, e2⟩ (.inl rfl)]; exact k1, k2.mono (hcutN _)⟩
      size := by rw [put_size]; exact h.size
      heap := by
        rw [hcut]
        refine h2.wider fun b hb => ⟨hb.1, fun m O l hp hl => ?_⟩
        have hp' := pend_old hp
        rw [hpn hp'] at hl
        exact hb.2 m O l hp' hl
      names := fun j l hj => by
        unfold Inj.join at hj
        by_cases hlt' : j < (H (M + 1)).next
        · exact .inl hlt'
        · rw [if_neg hlt'] at hj
          rcases h.names j l hj with hb | ⟨m, O, hp, e⟩
          · exact absurd (Nat.lt_of_lt_of_le hb hmono) hlt'
          · exact .inr ⟨m, O, pend_up hp, e⟩
      pend := fun m O hp => by
        have hp' := pend_old hp
        obtain ⟨l, g1, g2, g3⟩ := h.pend m O hp'
        refine ⟨l, hext _ _ g1, g2, (g3.of_block ?_).mono (hcutN _)⟩
        exact h4.heap _ fun hf => hf.2 m O l hp' g1 rfl
      apart := fun m1 m2 O1 O2 l1 l2 hp1 hp2 hl1 hl2 e => by
        have k1 := pend_old hp1
        have k2 := pend_old hp2
        rw [hpn k1] at hl1
        rw [hpn k2] at hl2
        exact h.apart m1 m2 O1 O2 l1 l2 k1 k2 hl1 hl2 e
      snap := ⟨_, _, hSm, fun _ _ h => h⟩
      ext := by
        refine ⟨fun j l hj => hext j l (h.ext.ext j l hj), fun j hj => ?_⟩
        have h0 : (H 0).next ≤ (H M).next := hT.next hr (Nat.zero_le _) h.le
        have hjM := Nat.lt_of_lt_of_le hj h0
        unfold Inj.join
        rw [if_pos (Nat.lt_of_lt_of_le hjM hmono), h1.old j hjM, below_lt hjM]
        exact h.ext.old j hj
      fb := h.fb.trans (h4.wider fun b hb => hb.1)
      defers := by rw [put_defers]; exact h.defers }

end
end Go.Ab
