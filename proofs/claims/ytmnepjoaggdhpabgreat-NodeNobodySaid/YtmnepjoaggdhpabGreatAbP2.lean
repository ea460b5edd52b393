/-
  PLANS FOR REGIONS THAT DRAW: what is checked holds.
-/
import Derived.Test.YtmnepjoaggdhpabGreatAbO6
set_option linter.unusedVariables false
namespace Go.Ab

theorem tb_eq (m i : Nat) : tb m i = m.testBit i := by
  unfold tb Nat.testBit
  rw [Bool.eq_iff_iff, Nat.beq_eq]
  show (m >>> i) &&& 1 = 1 ↔ _
  rw [Nat.and_comm, bne_iff_ne]
  have h : 1 &&& (m >>> i) = (m >>> i) % 2 := by rw [Nat.and_comm]; exact Nat.and_one_is_mod _
  rw [h]
  omega

theorem tb_lor (a b i : Nat) : tb (Nat.lor a b) i = (tb a i || tb b i) := by
  rw [tb_eq, tb_eq, tb_eq]; exact Nat.testBit_or a b i

theorem tb_bit (j i : Nat) : tb (bit j) i = decide (j = i) := by
  rw [tb_eq]
  show (1 <<< j).testBit i = _
  rw [Nat.one_shiftLeft, Nat.testBit_two_pow]

theorem tb_zero (i : Nat) : tb 0 i = false := by rw [tb_eq]; exact Nat.zero_testBit i

theorem tb_sub {a b : Nat} (h : Nat.beq (Nat.land a b) b = true) {i : Nat} (hi : tb b i = true) : tb a i = true := by
  have e := Nat.eq_of_beq_eq_true h
  rw [← e] at hi
  rw [tb_eq] at hi ⊢
  rw [show Nat.land a b = a &&& b from rfl, Nat.testBit_and, Bool.and_eq_true] at hi
  exact hi.1

theorem bindsAny_eq (e : Edge) : Region.binds .any e = bindsAny e := by
  unfold Region.binds bindsAny
  cases e.ground <;> rfl

section
variable {γ : Type}

theorem maskE_some {A : Tr Nat} {r : γ} : ∀ {l : List Edge} {m : Nat} {k : Nat → Option γ}, maskE A none l m k = some r →
    ∃ m', k m' = some r ∧ ∀ i, tb m' i = true → tb m i = true ∨ ∃ e ∈ l, bindsAny e = true ∧ (i = e.on ∨ ∃ x, A.get e.on = some x ∧ tb x i = true)
  | [], m, k, h => ⟨m, h, fun i hi => .inl hi⟩
  | e :: l, m, k, h => by
    have h' : (Bool.rec (motive := fun _ => Option γ) (maskE A none l m k) (Option.rec (motive := fun _ => Option γ) none (fun x => forceN (Nat.lor (Nat.lor m x) (bit e.on)) fun m => maskE A none l m k) (A.get e.on)) (bindsAny e)) = some r := h
    cases hb : bindsAny e with
    | false =>
      rw [hb] at h'
      obtain ⟨m', h1, h2⟩ := maskE_some (l := l) h'
      refine ⟨m', h1, fun i hi => ?_⟩
      rcases h2 i hi with h3 | ⟨e', h3, h4⟩
      · exact .inl h3
      · exact .inr ⟨e', List.mem_cons_of_mem _ h3, h4⟩
    | true =>
      rw [hb] at h'
      cases hx : A.get e.on with
      | none => rw [hx] at h'; cases h'
      | some x =>
        rw [hx] at h'
        have h'' : forceN (Nat.lor (Nat.lor m x) (bit e.on)) (fun m => maskE A none l m k) = some r := h'
        rw [forceN_eq] at h''
        obtain ⟨m', h1, h2⟩ := maskE_some (l := l) h''
        refine ⟨m', h1, fun i hi => ?_⟩
        rcases h2 i hi with h3 | ⟨e', h3, h4⟩
        · rw [tb_lor, tb_lor, tb_bit, Bool.or_eq_true, Bool.or_eq_true, decide_eq_true_eq] at h3
          rcases h3 with (h3 | h3) | h3
          · exact .inl h3
          · exact .inr ⟨e, List.mem_cons_self, hb, .inr ⟨x, hx, h3⟩⟩
          · exact .inr ⟨e, List.mem_cons_self, hb, .inl h3.symm⟩
        · exact .inr ⟨e', List.mem_cons_of_mem _ h3, h4⟩

/-- What the scan knows of the operations it has seen. -/
structure Seen (ops : List Oper) (j : Nat) (A W : Tr Nat) (O : Tr Oper) : Prop where
  masks : ∀ x m, A.get x = some m → ∀ i, tb m i = true → Bef ops i x
  opers : ∀ x, O.get x = if x < j then ops[x]? else none
  writes : ∀ x o d, x < j → ops[x]? = some o → o.dst = some d → W.get d = some x

theorem scan_some {ops : List Oper} {r : γ} {k : Tr Nat → Tr Nat → Tr Oper → Option γ} : ∀ {l : List Oper} {j : Nat} {A W : Tr Nat} {O : Tr Oper}, ops.drop j = l → Seen ops j A W O → scan none k l j A W O = some r →
    ∃ A' W' O', k A' W' O' = some r ∧ Seen ops ops.length A' W' O'
  | [], j, A, W, O, hd, hs, h => by
    have hj : ops.length ≤ j := by
      have := congrArg List.length hd
      simp at this; omega
    refine ⟨A, W, O, h, hs.masks, fun x => ?_, fun x o d hx => hs.writes x o d (by omega)⟩
    rw [hs.opers x]
    by_cases hx : x < ops.length
    · rw [if_pos hx, if_pos (by omega)]
    · rw [if_neg hx]
      split
      · exact List.getElem?_eq_none (by omega)
      · rfl
  | o :: l, j, A, W, O, hd, hs, h => by
    have ho : ops[j]? = some o := by
      have := congrArg (·[0]?) hd
      simpa using this
    have hl : ops.drop (j + 1) = l := by
      rw [← List.tail_drop, hd]; rfl
    have h' : maskE A none o.after.toList 0 (fun m => A.set j m fun A => O.set j o fun O => forceN (Nat.succ j) fun j' =>
      Option.rec (motive := fun _ => Option γ) (scan none k l j' A W O) (fun d => Option.rec (motive := fun _ => Option γ) (W.set d j fun W => scan none k l j' A W O) (fun _ => none) (W.get d)) o.dst) = some r := h
    obtain ⟨m, h1, h2⟩ := maskE_some h'
    simp only [Tr.set_eq, forceN_eq] at h1
    have hmask : ∀ i, tb m i = true → Bef ops i j := fun i hi => by
      rcases h2 i hi with h3 | ⟨e, h3, h4, h5⟩
      · rw [tb_zero] at h3; cases h3
      · have hp : e.on ∈ preds o := mem_preds.2 ⟨e, h3, by rw [bindsAny_eq]; exact h4, rfl⟩
        rcases h5 with rfl | ⟨x, hx, hxi⟩
        · exact .one ho hp
        · exact .trans (hs.masks _ _ hx i hxi) (.one ho hp)
    have hA : ∀ x m', (A.put j m).get x = some m' → ∀ i, tb m' i = true → Bef ops i x := fun x m' hx i hi => by
      rw [Tr.get_put] at hx
      by_cases e : x = j
      · subst e
        rw [if_pos rfl] at hx; cases hx
        exact hmask i hi
      · rw [if_neg e] at hx
        exact hs.masks x m' hx i hi
    have hO : ∀ x, (O.put j o).get x = if x < j + 1 then ops[x]? else none := fun x => by
      rw [Tr.get_put]
      by_cases e : x = j
      · subst e; rw [if_pos rfl, if_pos (by omega), ho]
      · rw [if_neg e, hs.opers x]
        by_cases hx : x < j
        · rw [if_pos hx, if_pos (by omega)]
        · rw [if_neg hx, if_neg (by omega)]
    cases hdst : o.dst with
    | none =>
      rw [hdst] at h1
      refine scan_some (l := l) hl ⟨hA, hO, fun x o' d hx hox hd' => ?_⟩ h1
      by_cases e : x = j
      · subst e
        rw [ho] at hox; cases hox
        rw [hdst] at hd'; cases hd'
      · exact hs.writes x o' d (by omega) hox hd'
    | some d =>
      rw [hdst] at h1
      cases hw : W.get d with
      | some y =>
        have h1' : (Option.rec (motive := fun _ => Option γ) (scan none k l (j + 1) (A.put j m) (W.put d j) (O.put j o)) (fun _ => none) (W.get d)) = some r := h1
        rw [hw] at h1'; cases h1'
      | none =>
        have h1' : (Option.rec (motive := fun _ => Option γ) (scan none k l (j + 1) (A.put j m) (W.put d j) (O.put j o)) (fun _ => none) (W.get d)) = some r := h1
        rw [hw] at h1'
        refine scan_some (l := l) hl ⟨hA, hO, fun x o' d' hx hox hd' => ?_⟩ h1'
        rw [Tr.get_put]
        by_cases e : x = j
        · subst e
          rw [ho] at hox; cases hox
          rw [hdst] at hd'; cases hd'
          rw [if_pos rfl]
        · have hold := hs.writes x o' d' (by omega) hox hd'
          by_cases ed : d' = d
          · subst ed; rw [hw] at hold; cases hold
          · rw [if_neg ed]; exact hold

end
end Go.Ab
