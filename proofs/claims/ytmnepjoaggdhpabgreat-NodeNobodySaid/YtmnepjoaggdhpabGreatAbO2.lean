/-
  REGIONS IN ANY ORDER: names cut off; memories in parts.
-/
import Derived.Test.YtmnepjoaggdhpabGreatAbO
set_option linter.unusedVariables false
namespace Go.Ab

/-- The names below some number. -/
def Inj.below (ρ : Inj) (N : Nat) : Inj := fun i => if i < N then ρ i else none

theorem below_lt {ρ : Inj} {N i : Nat} (h : i < N) : ρ.below N i = ρ i := by simp [Inj.below, h]
theorem below_ge {ρ : Inj} {N i : Nat} (h : N ≤ i) : ρ.below N i = none := by
  unfold Inj.below
  rw [if_neg (Nat.not_lt.2 h)]

theorem cut_some {ρ : Inj} {N i : Nat} {l : Loc} (h : ρ.below N i = some l) : i < N ∧ ρ i = some l := by
  unfold Inj.below at h
  by_cases hi : i < N
  · rw [if_pos hi] at h; exact ⟨hi, h⟩
  · rw [if_neg hi] at h; cases h

theorem below_ext {ρ ρ' : Inj} {N N' : Nat} (h : ∀ i l, i < N → ρ i = some l → ρ' i = some l) (hn : N ≤ N') : Ext (ρ.below N) (ρ'.below N') := by
  intro i l hi
  obtain ⟨h1, h2⟩ := cut_some hi
  rw [below_lt (Nat.lt_of_lt_of_le h1 hn)]
  exact h i l h1 h2

theorem below_self (ρ : Inj) (N : Nat) : Ext (ρ.below N) ρ := fun i l h => (cut_some h).2

/-- What stands for names below a number: just those. -/
theorem below_all {ρ : Inj} {N : Nat} (h : ∀ i, N ≤ i → ρ i = none) : ρ.below N = ρ := by
  funext i
  by_cases hi : i < N
  · exact below_lt hi
  · rw [below_ge (Nat.le_of_not_lt hi), h i (Nat.le_of_not_lt hi)]

section
variable {ρ : Inj} {hp : Hp} {w w' : World} {B B' : Nat → Prop}

theorem HRel.wider (h : HRel ρ hp w B) (hB : ∀ b, B b → B' b) : HRel ρ hp w B' :=
  ⟨fun i o e => let ⟨l, hl, hb, ho⟩ := h.obj i o e; ⟨l, hl, hB _ hb, ho⟩, h.inj, h.fresh, fun b hb => hB _ (h.size b hb)⟩

/-- Objects have names of their own. -/
theorem HRel.lt_obj (h : HRel ρ hp w B) {i : Id} {o : AObj} (hi : hp.h.get i = some o) : i < hp.next := by
  obtain ⟨l, hl, _⟩ := h.obj i o hi
  exact h.lt_next hl

/-- A part of a memory, the names as many as one likes. -/
theorem HRel.part {ρ' : Inj} {m : Tr AObj} {n : Nat} (h : HRel ρ hp w B) (hsub : ∀ i o, m.get i = some o → hp.h.get i = some o) (hext : ∀ i l, ρ i = some l → ρ' i = some l) (hfresh : ∀ i, n ≤ i → ρ' i = none) : HRel ρ' ⟨m, n⟩ w B := by
  have hE : Ext ρ ρ' := hext
  refine ⟨fun i o hi => ?_, fun i j o o' l l' hi hj hl hl' e => ?_, hfresh, h.size⟩
  · obtain ⟨l, hl, hb, ho⟩ := h.obj i o (hsub i o hi)
    exact ⟨l, hext i l hl, hb, ho.mono hE⟩
  · obtain ⟨k, hk, _, _⟩ := h.obj i o (hsub i o hi)
    obtain ⟨k', hk', _, _⟩ := h.obj j o' (hsub j o' hj)
    rw [hext i k hk] at hl; cases hl
    rw [hext j k' hk'] at hl'; cases hl'
    exact h.inj i j o o' _ _ (hsub i o hi) (hsub j o' hj) hk hk' e

theorem Fb.wider (h : Fb B w w') (hB : ∀ b, B b → B' b) : Fb B' w w' := ⟨fun b hb => h.heap b fun h' => hb (hB _ h'), h.size, h.rest⟩

/-- The names of a new memory, when no name is asked for. -/
theorem same_names {ρ ρ' : Inj} {N : Nat} (h : ExtN N ρ ρ') (hf : ∀ i, N ≤ i → ρ i = none) (hf' : ∀ i, N ≤ i → ρ' i = none) : ρ' = ρ := by
  funext i
  by_cases hi : i < N
  · exact h.old i hi
  · rw [hf i (Nat.le_of_not_lt hi), hf' i (Nat.le_of_not_lt hi)]

end

/-! ### The invariant -/

section
variable {T : Tab} {rec : Rec} {nt : Nat} {ops : List Oper} {pl : List (Nat × Nat)} {E : Nat → Tr AV} {H : Nat → Hp} {S : Nat → List (Tr AObj)} {V : Nat → AV}

/-- At this slot a new block is made. -/
def New (H : Nat → Hp) (m : Nat) (O : AObj) : Prop := H (m + 1) = ⟨(H m).h.put (H m).next O, (H m).next + 1⟩

/-- Its operation has run ahead of its turn and has made a block. -/
def Pend (pl : List (Nat × Nat)) (H : Nat → Hp) (L : Nat → Prop) (M : Nat) (m : Nat) (O : AObj) : Prop := M ≤ m ∧ (∃ i lo, pl[m]? = some (i, lo) ∧ L i) ∧ New H m O

def Rest (pl : List (Nat × Nat)) (H : Nat → Hp) (L : Nat → Prop) (M : Nat) (ρ : Inj) (base : Nat → Prop) (b : Nat) : Prop :=
  base b ∧ ∀ m O l, Pend pl H L M m O → ρ (H m).next = some l → l.b ≠ b

structure Inv (T : Tab) (nt : Nat) (ops : List Oper) (pl : List (Nat × Nat)) (E : Nat → Tr AV) (H : Nat → Hp) (S : Nat → List (Tr AObj)) (V : Nat → AV) (base : Nat → Prop) (ρ₀ : Inj) (a₀ : Act) (w₀ : World)
    (L : Nat → Prop) (M : Nat) (ρ : Inj) (a : Act) (w : World) : Prop where
  le : M ≤ pl.length
  pre : ∀ (m i lo : Nat), m < M → pl[m]? = some (i, lo) → L i
  eff : ∀ (m i lo : Nat) (o : Oper), M ≤ m → pl[m]? = some (i, lo) → ops[i]? = some o → L i → isEff T o.op = false
  down : ∀ i j, Bef ops i j → L j → L i
  wrote : ∀ (m i : Nat) (t : Tmp), Writes ops pl m i t → L i → ∃ v, a.tmps[t]? = some v ∧ VRel (ρ.below (H (m + 1)).next) (V m) v
  kept : ∀ (t : Tmp) (x : AV), (∀ m i, Writes ops pl m i t → ¬ L i) → (E 0).get t = some x → ∃ v, a.tmps[t]? = some v ∧ VRel (ρ.below (H 0).next) x v
  size : a.tmps.size = nt
  heap : HRel (ρ.below (H M).next) (H M) w (Rest pl H L M ρ base)
  names : ∀ i l, ρ i = some l → i < (H M).next ∨ ∃ m O, Pend pl H L M m O ∧ i = (H m).next
  pend : ∀ m O, Pend pl H L M m O → ∃ l, ρ (H m).next = some l ∧ base l.b ∧ ORel (ρ.below (H (m + 1)).next) w l O
  apart : ∀ m m' O O' l l', Pend pl H L M m O → Pend pl H L M m' O' → ρ (H m).next = some l → ρ (H m').next = some l' → l.b = l'.b → m = m'
  snap : ∃ h rest, S M = h :: rest ∧ ∀ i o, h.get i = some o → (H M).h.get i = some o
  ext : ExtN (H 0).next ρ₀ ρ
  fb : Fb base w₀ w
  defers : a.defers = a₀.defers

theorem New.next {m : Nat} {O : AObj} (h : New H m O) : (H (m + 1)).next = (H m).next + 1 := by rw [h]

variable {base : Nat → Prop} {ρ₀ : Inj} {a₀ : Act} {w₀ : World} {L : Nat → Prop} {M : Nat} {ρ : Inj} {a : Act} {w : World}

theorem slot_lt {m : Nat} {s : Nat × Nat} (h : pl[m]? = some s) : m < pl.length := by
  rcases Nat.lt_or_ge m pl.length with h' | h'
  · exact h'
  · simp [List.getElem?_eq_none h'] at h

/-- A slot without effect: no new block, or just one. -/
theorem SlotAt.shape {o : Oper} {lo : Nat} {E : Tr AV} {H H' : Hp} {S S' : List (Tr AObj)} {v : AV} (h : SlotAt T rec ops o lo E H S v H' S') (he : isEff T o.op = false) :
    S' = S ∧ (H' = H ∨ ∃ O, H' = ⟨H.h.put H.next O, H.next + 1⟩) := by
  cases h with
  | eff he' _ => rw [he] at he'; cases he'
  | skip _ _ => exact ⟨rfl, .inl rfl⟩
  | pure _ hl _ h =>
    refine ⟨rfl, ?_⟩
    obtain ⟨m, n⟩ := H
    have hs := opA_same (T := T) (env := E) (n := n) (m := m) (m' := m) he hl
    rw [h] at hs
    generalize hr : (some (ARes.val v H') : Option ARes) = r at hs
    cases hs with
    | none => cases hr
    | val u => cases hr; exact .inl rfl
    | new u O => cases hr; exact .inr ⟨O, rfl⟩
    | call f as => cases hr
  | load _ hl _ h _ =>
    refine ⟨rfl, .inl ?_⟩
    obtain ⟨m, n⟩ := H
    have hs := opA_loads (T := T) (env := E) (n := n) (n' := n) (m := m) he hl
    rw [h] at hs
    generalize hr : (some (ARes.val v H') : Option ARes) = r at hs
    cases hs with
    | none => cases hr
    | val u => cases hr; rfl

/-- The turn of an operation that has run comes. -/
theorem Inv.absorb (hP : PlanOk T ops pl) (hr : MonoR rec) (hT : TraceOk T rec nt ops pl E H S V) (h : Inv T nt ops pl E H S V base ρ₀ a₀ w₀ L M ρ a w) {i lo : Nat} (hM : pl[M]? = some (i, lo)) (hL : L i) :
    Inv T nt ops pl E H S V base ρ₀ a₀ w₀ L (M + 1) ρ a w := by
  obtain ⟨o, ho, hat, _, _⟩ := hT.step M i lo hM
  have hlt := slot_lt hM
  have hne := h.eff M i lo o (Nat.le_refl _) hM ho hL
  obtain ⟨hS, hH⟩ := hat.shape hne
  have hsub : ∀ {m O}, Pend pl H L (M + 1) m O → Pend pl H L M m O := fun ⟨h1, h2, h3⟩ => ⟨by omega, h2, h3⟩
  obtain ⟨hh, rest, hs1, hs2⟩ := h.snap
  have hin : ∀ {m O}, Pend pl H L M m O → m = M ∨ Pend pl H L (M + 1) m O := fun {m O} ⟨h1, h2, h3⟩ => by
    by_cases e : m = M
    · exact .inl e
    · exact .inr ⟨by omega, h2, h3⟩
  have hmono : (H M).next ≤ (H (M + 1)).next := hT.next1 hr hlt
  have key : HRel (ρ.below (H (M + 1)).next) (H (M + 1)) w (Rest pl H L (M + 1) ρ base) ∧ (∀ i o, hh.get i = some o → (H (M + 1)).h.get i = some o) := by
    rcases hH with hH | ⟨O, hH⟩
    · have hno : ∀ O, ¬ New H M O := fun O hn => by
        have := hn.next
        rw [hH] at this; omega
      rw [hH]
      refine ⟨h.heap.wider fun b hb => ⟨hb.1, fun m O l hp => hb.2 m O l (hsub hp)⟩, hs2⟩
    · have hN : New H M O := hH
      have hPM : Pend pl H L M M O := ⟨Nat.le_refl _, ⟨i, lo, hM, hL⟩, hN⟩
      obtain ⟨l, hl, hbl, hol⟩ := h.pend M O hPM
      have hnn : (H M).h.get (H M).next = none := h.heap.next_none (Nat.le_refl _)
      have hnext : (H (M + 1)).next = (H M).next + 1 := hN.next
      have hget : ∀ j, (H (M + 1)).h.get j = if j = (H M).next then some O else (H M).h.get j := fun j => by rw [hH]; exact Tr.get_put _ _ _ _
      have hext : Ext (ρ.below (H M).next) (ρ.below (H (M + 1)).next) := below_ext (fun _ _ _ h => h) hmono
      refine ⟨⟨fun j p hj => ?_, fun j k p q x y hj hk hx hy e => ?_, fun j hj => below_ge hj, fun b hb => ⟨(h.heap.size b hb).1, fun m O l hp => (h.heap.size b hb).2 m O l (hsub hp)⟩⟩, fun j p hj => ?_⟩
      · rw [hget] at hj
        by_cases e : j = (H M).next
        · rw [if_pos e] at hj
          cases hj
          subst e
          refine ⟨l, by rw [below_lt (by omega)]; exact hl, ⟨hbl, fun m O' l' hp hl' eb => ?_⟩, hol⟩
          have hp0 := hsub hp
          have := h.apart m M O' O l' l hp0 hPM hl' hl eb
          have h1 := hp.1
          omega
        · rw [if_neg e] at hj
          obtain ⟨x, hx, hb, ho'⟩ := h.heap.obj j p hj
          exact ⟨x, hext _ _ hx, ⟨hb.1, fun m O l hp => hb.2 m O l (hsub hp)⟩, ho'.mono hext⟩
      · rw [hget] at hj hk
        have old : ∀ {j : Nat} {p : AObj} {x : Loc}, (if j = (H M).next then some O else (H M).h.get j) = some p → ρ.below (H (M + 1)).next j = some x →
            (j = (H M).next ∧ x = l) ∨ (j ≠ (H M).next ∧ (H M).h.get j = some p ∧ ρ.below (H M).next j = some x ∧ x.b ≠ l.b) := by
          intro j p x hj hx
          by_cases e : j = (H M).next
          · rw [if_pos e] at hj
            have := (cut_some hx).2
            rw [e, hl] at this
            exact .inl ⟨e, (Option.some.inj this).symm⟩
          · rw [if_neg e] at hj
            obtain ⟨x', hx', hb', _⟩ := h.heap.obj j p hj
            rw [hext _ _ hx'] at hx
            cases hx
            exact .inr ⟨e, hj, hx', fun eb => hb'.2 M O l hPM hl eb.symm⟩
        rcases old hj hx with ⟨e1, e2⟩ | ⟨e1, g1, g2, g3⟩ <;> rcases old hk hy with ⟨f1, f2⟩ | ⟨f1, k1, k2, k3⟩
        · rw [e1, f1]
        · rw [e2] at e; exact absurd e.symm k3
        · rw [f2] at e; exact absurd e g3
        · exact h.heap.inj j k p q x y g1 k1 g2 k2 e
      · rw [hget]
        have hj' := hs2 j p hj
        by_cases e : j = (H M).next
        · rw [e, hnn] at hj'; cases hj'
        · rw [if_neg e]; exact hj'
  exact {
    le := hlt
    pre := fun m i' lo' hm hp => by
      by_cases e : m = M
      · subst e
        rw [hM] at hp; cases hp
        exact hL
      · exact h.pre m i' lo' (by omega) hp
    eff := fun m i' lo' o' hm => h.eff m i' lo' o' (by omega)
    down := h.down
    wrote := h.wrote
    kept := h.kept
    size := h.size
    heap := key.1
    names := fun j l hj => by
      rcases h.names j l hj with hlt' | ⟨m, O, hp, e⟩
      · exact .inl (Nat.lt_of_lt_of_le hlt' hmono)
      · rcases hin hp with rfl | hp'
        · exact .inl (by rw [hp.2.2.next, e]; exact Nat.lt_succ_self _)
        · exact .inr ⟨m, O, hp', e⟩
    pend := fun m O hp => h.pend m O (hsub hp)
    apart := fun m m' O O' l l' hp hp' => h.apart m m' O O' l l' (hsub hp) (hsub hp')
    snap := ⟨hh, rest, by rw [hS]; exact hs1, key.2⟩
    ext := h.ext
    fb := h.fb
    defers := h.defers }

end
end Go.Ab
