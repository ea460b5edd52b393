/-
  REGIONS IN ANY ORDER: what a plan must be; the canonical run as a trace.
-/
import Derived.Test.YtmnepjoaggdhpabGreatAbW3
set_option linter.unusedVariables false
namespace Go.Ab

/-- What comes ahead of what, in each order. -/
inductive Bef (ops : List Oper) : Nat → Nat → Prop where
  | one {i j : Nat} {o : Oper} : ops[j]? = some o → i ∈ preds o → Bef ops i j
  | trans {i j k : Nat} : Bef ops i j → Bef ops j k → Bef ops i k

/-- How many effects are among the first slots. -/
noncomputable def effsTo (T : Tab) (ops : List Oper) (pl : List (Nat × Nat)) (m : Nat) : Nat := ((pl.take m).filter fun s => effAt T ops s.1).length

structure PlanOk (T : Tab) (ops : List Oper) (pl : List (Nat × Nat)) : Prop where
  all : ∀ i, i < ops.length → ∃ (m lo : Nat), pl[m]? = some (i, lo)
  one : ∀ (m m' i lo lo' : Nat), pl[m]? = some (i, lo) → pl[m']? = some (i, lo') → m = m'
  pred : ∀ (m j lo : Nat) (o : Oper) (i : Nat), pl[m]? = some (j, lo) → ops[j]? = some o → i ∈ preds o → ∃ (m' lo' : Nat), m' < m ∧ pl[m']? = some (i, lo')
  eff : ∀ (m e lo : Nat) (o : Oper), pl[m]? = some (e, lo) → ops[e]? = some o → isEff T o.op = true → ∀ (m' i lo' : Nat), m' < m → pl[m']? = some (i, lo') → Bef ops i e
  wr : ∀ (i j : Nat) (oi oj : Oper) (t : Tmp), ops[i]? = some oi → ops[j]? = some oj → oi.dst = some t → oj.dst = some t → i = j
  haz : ∀ (j : Nat) (oj : Oper) (t : Tmp) (i : Nat) (oi : Oper), ops[j]? = some oj → t ∈ looks ops oj → ops[i]? = some oi → oi.dst = some t → i = j ∨ Bef ops i j ∨ Bef ops j i
  lo : ∀ (m i lo : Nat), pl[m]? = some (i, lo) → lo = 0 ∨ ∃ (q e lo' : Nat) (o : Oper), pl[q]? = some (e, lo') ∧ ops[e]? = some o ∧ isEff T o.op = true ∧ Bef ops e i ∧ effsTo T ops pl (q + 1) = lo

theorem PlanOk.lin {T : Tab} {ops : List Oper} {pl : List (Nat × Nat)} (h : PlanOk T ops pl) {i j : Nat} (hb : Bef ops i j) : ∀ {m' lo' : Nat}, pl[m']? = some (j, lo') → ∃ (m lo : Nat), m < m' ∧ pl[m]? = some (i, lo) := by
  induction hb with
  | one ho hi => intro m' lo' hj; exact h.pred m' _ lo' _ _ hj ho hi
  | trans _ _ ih1 ih2 =>
    intro m' lo' hk
    obtain ⟨m1, lo1, h1, h2⟩ := ih2 hk
    obtain ⟨m, lo, h3, h4⟩ := ih1 h2
    exact ⟨m, lo, by omega, h4⟩

/-- What one slot comes to. -/
inductive SlotAt (T : Tab) (rec : Rec) (all : List Oper) (o : Oper) (lo : Nat) (E : Tr AV) (H : Hp) (S : List (Tr AObj)) : AV → Hp → List (Tr AObj) → Prop where
  | eff {v : AV} {H' : Hp} : isEff T o.op = true → Does T rec all o E H v H' → SlotAt T rec all o lo E H S v H' (H'.h :: S)
  | skip : isEff T o.op = false → wantedA o.guard all E = some false → SlotAt T rec all o lo E H S undefA H S
  | pure {v : AV} {H' : Hp} : isEff T o.op = false → isLoad T o.op = false → wantedA o.guard all E = some true → opA o.op T E H = some (.val v H') → SlotAt T rec all o lo E H S v H' S
  | load {v : AV} {H' : Hp} : isEff T o.op = false → isLoad T o.op = true → wantedA o.guard all E = some true → opA o.op T E H = some (.val v H') → stable T o.op v E (S.take (S.length - lo)) = true →
      SlotAt T rec all o lo E H S v H' S

structure TraceOk (T : Tab) (rec : Rec) (nt : Nat) (ops : List Oper) (pl : List (Nat × Nat)) (E : Nat → Tr AV) (H : Nat → Hp) (S : Nat → List (Tr AObj)) (V : Nat → AV) : Prop where
  step : ∀ m i lo, pl[m]? = some (i, lo) → ∃ o, ops[i]? = some o ∧ SlotAt T rec ops o lo (E m) (H m) (S m) (V m) (H (m + 1)) (S (m + 1)) ∧ (∀ d, o.dst = some d → d < nt) ∧ E (m + 1) = envPut (E m) o.dst (V m)

section
variable {T : Tab} {rec : Rec} {nt : Nat} {ops : List Oper}

theorem stepSlot_at {s : Nat × Nat} {env : Tr AV} {hp : Hp} {snaps : List (Tr AObj)} {k : Tr AV → Hp → List (Tr AObj) → Out} {out : Out} (h : stepSlot rec T nt ops s env hp snaps k = out) (ho : out ≠ .bad) :
    ∃ o v hp' sn', ops[s.1]? = some o ∧ SlotAt T rec ops o s.2 env hp snaps v hp' sn' ∧ (∀ d, o.dst = some d → d < nt) ∧ k (envPut env o.dst v) hp' sn' = out := by
  unfold stepSlot at h
  split at h
  · exact absurd h.symm ho
  · rename_i o hos
    split at h
    · rename_i hw he
      split at h
      · rename_i v hp' hv
        obtain ⟨h1, h2⟩ := putDst_fin h ho
        exact ⟨o, v, hp', _, hos, .eff he (.run hw (.inl hv)), h1, h2⟩
      · rename_i f args hv
        split at h
        · rename_i v hp' hr
          obtain ⟨h1, h2⟩ := putDst_fin h ho
          exact ⟨o, v, hp', _, hos, .eff he (.run hw (.inr ⟨f, args, hv, hr⟩)), h1, h2⟩
        · exact absurd h.symm ho
      · exact absurd h.symm ho
    · rename_i hw he
      split at h
      · rename_i v hp' hv
        split at h
        · rename_i hl
          obtain ⟨h1, h2⟩ := putDst_fin h ho
          exact ⟨o, v, hp', _, hos, .pure he hl hw hv, h1, h2⟩
        · rename_i hl
          split at h
          · rename_i hst
            obtain ⟨h1, h2⟩ := putDst_fin h ho
            exact ⟨o, v, hp', _, hos, .load he hl hw hv hst, h1, h2⟩
          · exact absurd h.symm ho
      · exact absurd h.symm ho
    · rename_i hw he
      obtain ⟨h1, h2⟩ := putDst_fin h ho
      exact ⟨o, undefA, hp, _, hos, .eff he (.skip hw), h1, h2⟩
    · rename_i hw he
      obtain ⟨h1, h2⟩ := putDst_fin h ho
      exact ⟨o, undefA, hp, _, hos, .skip he hw, h1, h2⟩
    · exact absurd h.symm ho

theorem slots_trace {e : AExit} {env' : Tr AV} {hp' : Hp} : ∀ (pl : List (Nat × Nat)) (env : Tr AV) (hp : Hp) (snaps : List (Tr AObj)), runSlots rec T nt ops pl env hp snaps = .fin e env' hp' →
    e = .normal ∧ ∃ E H S V, E 0 = env ∧ H 0 = hp ∧ S 0 = snaps ∧ E pl.length = env' ∧ H pl.length = hp' ∧ TraceOk T rec nt ops pl E H S V
  | [], env, hp, snaps, h => by
    have h' : Out.fin .normal env hp = .fin e env' hp' := h
    cases h'
    exact ⟨rfl, fun _ => env', fun _ => hp', fun _ => snaps, fun _ => undefA, rfl, rfl, rfl, rfl, rfl, ⟨fun m i lo hm => by simp at hm⟩⟩
  | s :: pl, env, hp, snaps, h => by
    have h' : stepSlot rec T nt ops s env hp snaps (runSlots rec T nt ops pl) = .fin e env' hp' := h
    obtain ⟨o, v, hp1, sn1, hos, hat, hd, hk⟩ := stepSlot_at h' (by simp)
    obtain ⟨he, E, H, S, V, h1, h2, h3, h4, h5, hT⟩ := slots_trace pl _ _ _ hk
    refine ⟨he, fun | 0 => env | m + 1 => E m, fun | 0 => hp | m + 1 => H m, fun | 0 => snaps | m + 1 => S m, fun | 0 => v | m + 1 => V m, rfl, rfl, rfl, h4, h5, ⟨fun m i lo hm => ?_⟩⟩
    cases m with
    | zero =>
      simp at hm
      subst hm
      refine ⟨o, hos, ?_, hd, h1⟩
      show SlotAt T rec ops o lo env hp snaps v (H 0) (S 0)
      rw [h2, h3]; exact hat
    | succ m =>
      exact hT.step m i lo (by simpa using hm)

/-! ### What follows of a trace -/

variable {pl : List (Nat × Nat)} {E : Nat → Tr AV} {H : Nat → Hp} {S : Nat → List (Tr AObj)} {V : Nat → AV}

theorem SlotAt.next {o : Oper} {lo : Nat} {E : Tr AV} {H H' : Hp} {S S' : List (Tr AObj)} {v : AV} (hr : MonoR rec) (h : SlotAt T rec ops o lo E H S v H' S') : H.next ≤ H'.next := by
  cases h with
  | eff he hd =>
    cases hd with
    | run hw hr' =>
      rcases hr' with h | ⟨f, args, _, h⟩
      · exact opA_next h
      · exact (hr _ _).2 _ _ h
    | skip => exact Nat.le_refl _
  | skip => exact Nat.le_refl _
  | pure _ _ _ h => exact opA_next h
  | load _ _ _ h _ => exact opA_next h

theorem TraceOk.next1 (hr : MonoR rec) (hT : TraceOk T rec nt ops pl E H S V) {m : Nat} (hm : m < pl.length) : (H m).next ≤ (H (m + 1)).next := by
  obtain ⟨o, _, hat, _⟩ := hT.step m pl[m].1 pl[m].2 (by rw [List.getElem?_eq_getElem hm])
  exact hat.next hr

theorem TraceOk.next (hr : MonoR rec) (hT : TraceOk T rec nt ops pl E H S V) {m m' : Nat} (h : m ≤ m') (hm' : m' ≤ pl.length) : (H m).next ≤ (H m').next := by
  induction m' with
  | zero => have : m = 0 := by omega
            subst this; exact Nat.le_refl _
  | succ k ih =>
    by_cases e : m = k + 1
    · subst e; exact Nat.le_refl _
    · exact Nat.le_trans (ih (by omega) (by omega)) (hT.next1 hr (by omega))

/-- Which operation writes a temporary, at which slot. -/
def Writes (ops : List Oper) (pl : List (Nat × Nat)) (m : Nat) (i : Nat) (t : Tmp) : Prop := ∃ lo o, pl[m]? = some (i, lo) ∧ ops[i]? = some o ∧ o.dst = some t

theorem envPut_get (env : Tr AV) (dst : Option Tmp) (v : AV) (t : Tmp) : (envPut env dst v).get t = if dst = some t then some v else env.get t := by
  cases dst with
  | none => simp [envPut]
  | some d =>
    simp only [envPut, Tr.get_put, Option.some.injEq]
    by_cases e : t = d
    · subst e; simp
    · rw [if_neg e, if_neg (fun h => e h.symm)]

theorem TraceOk.env (hT : TraceOk T rec nt ops pl E H S V) {t : Tmp} {x : AV} : ∀ {m : Nat}, m ≤ pl.length → (E m).get t = some x →
    (∃ m' i, m' < m ∧ Writes ops pl m' i t ∧ x = V m') ∨ ((∀ m' i, m' < m → ¬ Writes ops pl m' i t) ∧ (E 0).get t = some x)
  | 0, _, h => .inr ⟨fun m' i hm => by omega, h⟩
  | m + 1, hm, h => by
    have hlt : m < pl.length := by omega
    obtain ⟨o, ho, _, _, he⟩ := hT.step m pl[m].1 pl[m].2 (by rw [List.getElem?_eq_getElem hlt])
    rw [he, envPut_get] at h
    by_cases hd : o.dst = some t
    · rw [if_pos hd] at h
      cases h
      exact .inl ⟨m, pl[m].1, by omega, ⟨pl[m].2, o, by rw [List.getElem?_eq_getElem hlt], ho, hd⟩, rfl⟩
    · rw [if_neg hd] at h
      rcases hT.env (by omega) h with ⟨m', i, h1, h2, h3⟩ | ⟨h1, h2⟩
      · exact .inl ⟨m', i, by omega, h2, h3⟩
      · refine .inr ⟨fun m' i hlt' hw => ?_, h2⟩
        by_cases e : m' = m
        · subst e
          obtain ⟨lo, o', g1, g2, g3⟩ := hw
          rw [List.getElem?_eq_getElem hlt] at g1
          have : pl[m'].1 = i := by rw [Option.some.inj g1]
          rw [this] at ho
          rw [ho] at g2; cases g2
          exact hd g3
        · exact h1 m' i (by omega) hw

theorem effsTo_succ {m : Nat} {s : Nat × Nat} (h : pl[m]? = some s) : effsTo T ops pl (m + 1) = effsTo T ops pl m + (if effAt T ops s.1 = true then 1 else 0) := by
  unfold effsTo
  rw [List.take_add_one, h]
  simp only [Option.toList_some, List.filter_append, List.length_append]
  congr 1
  by_cases hh : effAt T ops s.1 = true
  · simp [hh]
  · simp [hh]

theorem TraceOk.snaps1 (hT : TraceOk T rec nt ops pl E H S V) {m : Nat} (hm : m < pl.length) : ∃ new, S (m + 1) = new ++ S m ∧ effsTo T ops pl (m + 1) = effsTo T ops pl m + new.length := by
  have hs : pl[m]? = some pl[m] := List.getElem?_eq_getElem hm
  obtain ⟨o, ho, hat, _, _⟩ := hT.step m pl[m].1 pl[m].2 hs
  have hee : effAt T ops pl[m].1 = isEff T o.op := by unfold effAt; rw [ho]
  rw [effsTo_succ hs, hee]
  generalize hS1 : S (m + 1) = S1 at *
  generalize H (m + 1) = H1 at *
  generalize V m = V1 at *
  cases hat with
  | eff he _ => exact ⟨[H1.h], rfl, by simp [he]⟩
  | skip he _ => exact ⟨[], rfl, by simp [he]⟩
  | pure he _ _ _ => exact ⟨[], rfl, by simp [he]⟩
  | load he _ _ _ _ => exact ⟨[], rfl, by simp [he]⟩

theorem TraceOk.snaps (hT : TraceOk T rec nt ops pl E H S V) {m m' : Nat} (h : m ≤ m') (hm' : m' ≤ pl.length) : ∃ new, S m' = new ++ S m ∧ effsTo T ops pl m' = effsTo T ops pl m + new.length := by
  induction m' with
  | zero =>
    have : m = 0 := by omega
    subst this
    exact ⟨[], rfl, rfl⟩
  | succ k ih =>
    by_cases e : m = k + 1
    · subst e; exact ⟨[], rfl, rfl⟩
    · obtain ⟨new, h1, h2⟩ := ih (by omega) (by omega)
      obtain ⟨new', h3, h4⟩ := hT.snaps1 (m := k) (by omega)
      exact ⟨new' ++ new, by rw [h3, h1, List.append_assoc], by rw [h4, h2, List.length_append]; omega⟩

end
end Go.Ab
