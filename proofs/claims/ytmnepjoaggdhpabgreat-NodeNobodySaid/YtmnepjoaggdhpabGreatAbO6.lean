/-
  REGIONS IN ANY ORDER: all orders come to what the machine says.
-/
import Derived.Test.YtmnepjoaggdhpabGreatAbO5
set_option linter.unusedVariables false
namespace Go.Ab

section
variable {T : Tab} {rec : Rec} {nt : Nat} {opsA : Array Oper} {pl : List (Nat × Nat)} {E : Nat → Tr AV} {H : Nat → Hp} {S : Nat → List (Tr AObj)} {V : Nat → AV}
variable {base : Nat → Prop} {ρ₀ : Inj} {a₀ : Act} {w₀ : World} {L : Nat → Prop} {M : Nat} {ρ : Inj} {a : Act} {w : World} {Q : Exit → Act → World → Prop} {K : Act → World → Prop}

theorem mem_preds {o : Oper} {i : Nat} : i ∈ preds o ↔ ∃ e ∈ o.after.toList, Region.binds .any e = true ∧ e.on = i := by
  unfold preds
  rw [List.mem_filterMap]
  constructor
  · rintro ⟨e, h1, h2⟩
    by_cases hb : Region.binds .any e = true
    · rw [if_pos hb] at h2
      exact ⟨e, h1, hb, Option.some.inj h2⟩
    · rw [if_neg hb] at h2; cases h2
  · rintro ⟨e, h1, h2, h3⟩
    exact ⟨e, h1, by rw [if_pos h2, h3]⟩

theorem mem_ready {listed : Array Bool} {i : Nat} : i ∈ Region.ready .any opsA listed ↔ ∃ o, opsA[i]? = some o ∧ listed.getD i true = false ∧ ∀ j ∈ preds o, listed.getD j false = true := by
  unfold Region.ready
  rw [List.mem_filter, List.mem_range]
  constructor
  · rintro ⟨h1, h2⟩
    simp only [Bool.and_eq_true, Bool.not_eq_true'] at h2
    obtain ⟨h2, h3⟩ := h2
    refine ⟨opsA[i], Array.getElem?_eq_getElem h1, h2, fun j hj => ?_⟩
    rw [Array.getElem?_eq_getElem h1] at h3
    simp only [Option.map_some, Option.getD_some] at h3
    rw [← Array.all_toList, List.all_eq_true] at h3
    obtain ⟨e, he, hb, rfl⟩ := mem_preds.1 hj
    have := h3 e he
    simpa [hb] using this
  · rintro ⟨o, h1, h2, h3⟩
    have hlt : i < opsA.size := by
      rcases Nat.lt_or_ge i opsA.size with h | h
      · exact h
      · simp [Array.getElem?_eq_none h] at h1
    refine ⟨hlt, ?_⟩
    simp only [Bool.and_eq_true, Bool.not_eq_true']
    refine ⟨h2, ?_⟩
    rw [h1]
    simp only [Option.map_some, Option.getD_some]
    rw [← Array.all_toList, List.all_eq_true]
    intro e he
    by_cases hb : Region.binds .any e = true
    · have := h3 e.on (mem_preds.2 ⟨e, he, hb, rfl⟩)
      simp [this]
    · simp [hb]

theorem Inv.absorb_to (hP : PlanOk T opsA.toList pl) (hr : MonoR rec) (hT : TraceOk T rec nt opsA.toList pl E H S V) {m : Nat} (hm : m ≤ pl.length) : ∀ (d : Nat) {M : Nat}, M + d = m → Inv T nt opsA.toList pl E H S V base ρ₀ a₀ w₀ L M ρ a w →
    (∀ (k i lo : Nat), M ≤ k → k < m → pl[k]? = some (i, lo) → L i) → Inv T nt opsA.toList pl E H S V base ρ₀ a₀ w₀ L m ρ a w
  | 0, M, e, h, _ => by
    have : M = m := by omega
    subst this; exact h
  | d + 1, M, e, h, hL => by
    have hlt : M < pl.length := by omega
    have hs : pl[M]? = some (pl[M].1, pl[M].2) := List.getElem?_eq_getElem hlt
    exact (h.absorb hP hr hT hs (hL M _ _ (Nat.le_refl _) (by omega) hs)).absorb_to hP hr hT hm d (by omega) (fun k i lo hk => hL k i lo (by omega))

/-- What is listed. -/
def Lst (listed : Array Bool) (i : Nat) : Prop := listed.getD i false = true

theorem Lst.set {listed : Array Bool} {i : Nat} (hi : i < listed.size) : Lst (listed.setIfInBounds i true) = fun x => x = i ∨ Lst listed x := by
  funext x
  unfold Lst
  by_cases e : x = i
  · subst e
    simp [hi]
  · have e' : ¬ i = x := fun h => e h.symm
    simp [e, Array.getElem?_setIfInBounds_ne e']

theorem count_set : ∀ {l : List Bool} {i : Nat}, l[i]? = some false → (l.set i true).countP (fun b => !b) + 1 = l.countP (fun b => !b)
  | [], i, h => by simp at h
  | b :: l, 0, h => by
    simp at h; subst h
    simp
  | b :: l, i + 1, h => by
    simp at h
    have := count_set h
    simp only [List.set_cons_succ, List.countP_cons]
    omega

theorem Inv.final (hP : PlanOk T opsA.toList pl) (hr : MonoR rec) (hT : TraceOk T rec nt opsA.toList pl E H S V) (h : Inv T nt opsA.toList pl E H S V base ρ₀ a₀ w₀ L M ρ a w) (hall : ∀ (k i lo : Nat), pl[k]? = some (i, lo) → L i) :
    Post base nt (H 0).next ρ₀ a₀ w₀ (.fin .normal (E pl.length) (H pl.length)) .normal a w := by
  have hn := h.absorb_to hP hr hT (Nat.le_refl pl.length) (pl.length - M) (by have := h.le; omega) (fun k i lo _ _ hk => hall k i lo hk)
  have h0 : (H 0).next ≤ (H pl.length).next := hT.next hr (Nat.zero_le _) (Nat.le_refl _)
  refine ⟨rfl, ρ.below (H pl.length).next, ⟨⟨fun j l hj => ?_, fun j hj => ?_⟩, h0, ⟨hn.heap.wider fun b hb => hb.1, hn.size, fun t x hx => ?_⟩, hn.fb, hn.defers⟩⟩
  · have hj' := h.ext.ext j l hj
    rcases hn.names j l hj' with hb | ⟨m, O, ⟨g1, ⟨i, lo, g2, _⟩, _⟩, _⟩
    · rw [below_lt hb]; exact hj'
    · have := slot_lt g2
      omega
  · rw [below_lt (Nat.lt_of_lt_of_le hj h0)]
    exact h.ext.old j hj
  · rcases hT.env (Nat.le_refl _) hx with ⟨m', i', h1, h2, rfl⟩ | ⟨h1, h2⟩
    · obtain ⟨lo', h3⟩ := h2.mem
      obtain ⟨v, hv, hrel⟩ := hn.wrote m' i' t h2 (hall m' i' lo' h3)
      exact ⟨v, hv, hrel.mono (below_ext (fun _ _ _ h => h) (hT.next hr (by omega) (Nat.le_refl _)))⟩
    · obtain ⟨v, hv, hrel⟩ := hn.kept t x (fun m' i' hw _ => by
        obtain ⟨lo', h3⟩ := hw.mem
        exact h1 m' i' (slot_lt h3) hw) h2
      exact ⟨v, hv, hrel.mono (below_ext (fun _ _ _ h => h) h0)⟩

theorem any_wp (hT0 : TabOk T) (hg : Good T rec) (hP : PlanOk T opsA.toList pl) (hT : TraceOk T rec nt opsA.toList pl E H S V) (hS0 : (S 0).length = 1) : ∀ (fuel : Nat) (listed : Array Bool) (M : Nat) (ρ : Inj) (a : Act) (w : World),
    listed.size = opsA.size → listed.toList.countP (fun b => !b) ≤ fuel → Inv T nt opsA.toList pl E H S V base ρ₀ a₀ w₀ (Lst listed) M ρ a w →
    wpAny T.P .any opsA (Post base nt (H 0).next ρ₀ a₀ w₀ (.fin .normal (E pl.length) (H pl.length))) fuel listed a w := by
  have hr := hg.mono
  have done : ∀ (listed : Array Bool) (M : Nat) (ρ : Inj) (a : Act) (w : World), listed.size = opsA.size → Region.ready .any opsA listed = [] → Inv T nt opsA.toList pl E H S V base ρ₀ a₀ w₀ (Lst listed) M ρ a w →
      Post base nt (H 0).next ρ₀ a₀ w₀ (.fin .normal (E pl.length) (H pl.length)) .normal a w := by
    intro listed M ρ a w hsz hnil h
    have hall : ∀ (k i lo : Nat), pl[k]? = some (i, lo) → Lst listed i := by
      intro k
      induction k using Nat.strongRecOn with
      | _ k ih =>
        intro i lo hk
        obtain ⟨o, ho, _⟩ := hT.step k i lo hk
        by_cases hl : listed.getD i false = true
        · exact hl
        · exfalso
          have hoA : opsA[i]? = some o := by rw [← toList_get]; exact ho
          have hlt : i < listed.size := by
            rw [hsz]
            rcases Nat.lt_or_ge i opsA.size with h | h
            · exact h
            · simp [Array.getElem?_eq_none h] at hoA
          have : i ∈ Region.ready .any opsA listed := mem_ready.2 ⟨o, hoA, by
            simp [hlt] at hl ⊢; exact hl, fun j hj => by
            obtain ⟨m', lo', h1, h2⟩ := hP.pred k i lo o j hk ho hj
            exact ih m' h1 j lo' h2⟩
          rw [hnil] at this; cases this
    exact h.final hP hr hT hall
  intro fuel
  induction fuel with
  | zero =>
    intro listed M ρ a w hsz hc h
    have hnil : Region.ready .any opsA listed = [] := by
      cases hrd : Region.ready .any opsA listed with
      | nil => rfl
      | cons x xs =>
        obtain ⟨o, h1, h2, _⟩ := mem_ready.1 (show x ∈ Region.ready .any opsA listed by rw [hrd]; exact List.mem_cons_self)
        have hx : listed[x]? = some false := by
          cases e : listed[x]? with
          | none => simp [e] at h2
          | some b => simp [e] at h2; rw [h2]
        have := count_set (l := listed.toList) (i := x) (by rw [toList_get]; exact hx)
        omega
    exact ⟨hnil, done listed M ρ a w hsz hnil h⟩
  | succ fuel ih =>
    intro listed M ρ a w hsz hc h
    refine ⟨fun hnil => done listed M ρ a w hsz hnil h, fun i hi => ?_⟩
    obtain ⟨o, hoA, hun, hpre⟩ := mem_ready.1 hi
    have ho : opsA.toList[i]? = some o := by rw [toList_get]; exact hoA
    have hx : listed[i]? = some false := by
      cases e : listed[i]? with
      | none => simp [e] at hun
      | some b => simp [e] at hun; rw [hun]
    have hlt : i < listed.size := by
      rcases Nat.lt_or_ge i listed.size with h | h
      · exact h
      · simp [Array.getElem?_eq_none h] at hx
    have hL : ¬ Lst listed i := fun hl => by
      unfold Lst at hl
      simp [hx] at hl
    have hcl0 : ∀ x y, Bef opsA.toList x y → y = i → Lst listed x := by
      intro x y hb
      induction hb with
      | one ho2 hp =>
        intro e; subst e
        rw [ho] at ho2; cases ho2
        exact hpre _ hp
      | trans h1 _ _ ih2 =>
        intro e
        exact h.down _ _ h1 (ih2 e)
    have hcl : ∀ x, Bef opsA.toList x i → Lst listed x := fun x hb => hcl0 x i hb rfl
    have next : ∀ M' ρ' a' w', Inv T nt opsA.toList pl E H S V base ρ₀ a₀ w₀ (fun x => x = i ∨ Lst listed x) M' ρ' a' w' →
        wpAny T.P .any opsA (Post base nt (H 0).next ρ₀ a₀ w₀ (.fin .normal (E pl.length) (H pl.length))) fuel (listed.setIfInBounds i true) a' w' := by
      intro M' ρ' a' w' h'
      refine ih _ M' ρ' a' w' (by simpa using hsz) ?_ (by rw [Lst.set hlt]; exact h')
      have := count_set (l := listed.toList) (i := i) (by rw [toList_get]; exact hx)
      rw [Array.toList_setIfInBounds]
      omega
    obtain ⟨m, lo, hm⟩ := hP.all i (by
      have : i < opsA.size := by rw [← hsz]; exact hlt
      simpa using this)
    have hMm : M ≤ m := by
      rcases Nat.lt_or_ge m M with hlt' | hge
      · exact absurd (h.pre m i lo hlt' hm) hL
      · exact hge
    cases he : isEff T o.op with
    | false => exact early_step hT0 hg hP hT hS0 h hm ho hMm he hL hcl (fun ρ' a' w' h' => next M ρ' a' w' h')
    | true =>
      have h2 := h.absorb_to hP hr hT (m := m) (by have := slot_lt hm; omega) (m - M) (by omega) (fun k j lo' _ hk hj => hcl j (hP.eff m i lo o hm ho he k j lo' hk hj))
      exact effect_step hT0 hg hP hT h2 hm ho he hL hcl (fun ρ' a' w' h' => next (m + 1) ρ' a' w' h')

/-- Before the first operation. -/
theorem Inv.start {env : Tr AV} {hp : Hp} {h0 : Tr AObj} (hE : E 0 = env) (hH : H 0 = hp) (hS : S 0 = [hp.h]) (hS0 : SRel base nt ρ₀ env hp a₀ w₀) : Inv T nt opsA.toList pl E H S V base ρ₀ a₀ w₀ (fun _ => False) 0 ρ₀ a₀ w₀ := by
  have hb : ρ₀.below (H 0).next = ρ₀ := by rw [hH]; exact below_all hS0.heap.fresh
  exact {
    le := Nat.zero_le _
    pre := fun m i lo hm => by omega
    eff := fun _ _ _ _ _ _ _ h => h.elim
    down := fun _ _ _ h => h
    wrote := fun _ _ _ _ h => h.elim
    kept := fun t x _ hx => by rw [hb]; rw [hE] at hx; exact hS0.env.2 t x hx
    size := hS0.env.1
    heap := by
      rw [hb, hH]
      exact hS0.heap.wider fun b hb => ⟨hb, fun m O l ⟨_, ⟨_, _, _, h⟩, _⟩ => h.elim⟩
    names := fun i l hi => .inl (by rw [hH]; exact hS0.heap.lt_next hi)
    pend := fun m O ⟨_, ⟨_, _, _, h⟩, _⟩ => h.elim
    apart := fun m m' O O' l l' ⟨_, ⟨_, _, _, h⟩, _⟩ => h.elim
    snap := ⟨_, _, hS, fun i o h => by rw [hH]; exact h⟩
    ext := ExtN.refl _ _
    fb := Fb.refl _ _
    defers := rfl }

/-- Regions that draw, if each plan is one. -/
theorem draws_of (hT0 : TabOk T) (hg : Good T rec) (hplan : ∀ ops slots, planOf T ops = some slots → PlanOk T ops slots) : Draws T rec := by
  intro ops slots nt env hp e env' hp' hpl hrun base ρ a w hS
  have hP := hplan _ _ hpl
  obtain ⟨rfl, E, H, S, V, h1, h2, h3, h4, h5, hT⟩ := slots_trace slots env hp [hp.h] hrun
  have hi : Inv T nt ops.toList slots E H S V base ρ a w (fun _ => False) 0 ρ a w := Inv.start (h0 := hp.h) h1 h2 h3 hS
  have hl : Lst (Array.replicate ops.size false) = fun _ => False := by
    funext x
    unfold Lst
    by_cases hx : x < ops.size <;> simp [hx]
  have := any_wp (nt := nt) (base := base) (ρ₀ := ρ) (a₀ := a) (w₀ := w) hT0 hg hP hT (by rw [h3]; rfl) ops.size (Array.replicate ops.size false) 0 ρ a w (by simp) (by
    refine Nat.le_trans List.countP_le_length ?_
    simp) (by rw [hl]; exact hi)
  rw [h2, h4, h5] at this
  exact this

end
end Go.Ab
