/-
  PLANS FOR REGIONS THAT DRAW: planOf's answer is a plan.
-/
import Derived.Test.YtmnepjoaggdhpabGreatAbP3
set_option linter.unusedVariables false
namespace Go.Ab

section
variable {T : Tab} {ops : List Oper} {A W : Tr Nat} {O : Tr Oper}

theorem check_some (hs : Seen ops ops.length A W O) {r : List (Nat × Nat)} : ∀ {l : List Nat} {pl : List (Nat × Nat)} {done k : Nat} {es : List Nat} {out : List (Nat × Nat) → List (Nat × Nat)}, Chk T ops A pl done k es → (∀ x, out x = pl ++ x) →
    check T A W O ops.length l done k es out = some r → ∃ done' k' es', Chk T ops A r done' k' es' ∧ Nat.succ done' = Nat.shiftLeft 1 ops.length
  | [], pl, done, k, es, out, hc, ho, h => by
    have h' : (Bool.rec (motive := fun _ => Option (List (Nat × Nat))) none (some (out [])) (Nat.beq (Nat.succ done) (Nat.shiftLeft 1 ops.length))) = some r := h
    cases hb : Nat.beq (Nat.succ done) (Nat.shiftLeft 1 ops.length) with
    | false => rw [hb] at h'; cases h'
    | true =>
      rw [hb] at h'
      have e : out [] = r := Option.some.inj h'
      rw [ho, List.append_nil] at e
      subst e
      exact ⟨done, k, es, hc, Nat.eq_of_beq_eq_true hb⟩
  | i :: l, pl, done, k, es, out, hc, ho, h => by
    have h' : (Option.rec (motive := fun _ => Option (List (Nat × Nat))) none (fun o => Option.rec (motive := fun _ => Option (List (Nat × Nat))) none (fun m =>
      Bool.rec (motive := fun _ => Option (List (Nat × Nat))) none
        (forceN (Nat.lor done (bit i)) fun done' => Bool.rec (motive := fun _ => Option (List (Nat × Nat)))
          (forceN (Bool.rec (motive := fun _ => Nat) 0 (lastIn m es k) (isLoad T o.op)) fun lo => check T A W O ops.length l done' k es fun r => out ((i, lo) :: r))
          (Bool.rec (motive := fun _ => Option (List (Nat × Nat))) none (forceN (Nat.succ k) fun k' => check T A W O ops.length l done' k' (i :: es) fun r => out ((i, 0) :: r)) (Nat.beq (Nat.land done m) done))
          (isEff T o.op))
        (Bool.rec (motive := fun _ => Bool) (Bool.rec (motive := fun _ => Bool) false (Bool.rec (motive := fun _ => Bool) false (guardOk A W O i m o.guard) (operandsOk A W i m o.op.operands.toList)) (edgesOk done o.after.toList)) false (tb done i)))
      (A.get i)) (O.get i)) = some r := h
    cases hO : O.get i with
    | none => rw [hO] at h'; cases h'
    | some o =>
      rw [hO] at h'
      cases hA : A.get i with
      | none => rw [hA] at h'; cases h'
      | some m =>
        rw [hA] at h'
        dsimp only at h'
        have hoi : ops[i]? = some o := by
          have := hs.opers i
          rw [hO] at this
          split at this
          · exact this.symm
          · cases this
        cases ht : tb done i with
        | true => rw [ht] at h'; cases h'
        | false =>
          rw [ht] at h'
          cases he : edgesOk done o.after.toList with
          | false => rw [he] at h'; cases h'
          | true =>
            rw [he] at h'
            cases hop : operandsOk A W i m o.op.operands.toList with
            | false => rw [hop] at h'; cases h'
            | true =>
              rw [hop] at h'
              cases hg : guardOk A W O i m o.guard with
              | false => rw [hg] at h'; cases h'
              | true =>
                rw [hg] at h'
                simp only [forceN_eq] at h'
                have hout : ∀ lo x, out ((i, lo) :: x) = (pl ++ [(i, lo)]) ++ x := fun lo x => by rw [ho]; simp
                cases hef : isEff T o.op with
                | true =>
                  simp only [hef] at h'
                  cases hb : Nat.beq (Nat.land done m) done with
                  | false => simp only [hb] at h'; cases h'
                  | true =>
                    simp only [hb] at h'
                    exact check_some hs (hc.add hs hoi hA ht he hop hg (.inl ⟨hef, hb, rfl, rfl, rfl⟩)) (hout 0) h'
                | false =>
                  simp only [hef] at h'
                  cases hl : isLoad T o.op with
                  | false =>
                    simp only [hl] at h'
                    exact check_some hs (hc.add hs hoi hA ht he hop hg (.inr ⟨hef, .inl rfl, rfl, rfl⟩)) (hout 0) h'
                  | true =>
                    simp only [hl] at h'
                    exact check_some hs (hc.add hs hoi hA ht he hop hg (.inr ⟨hef, .inr rfl, rfl, rfl⟩)) (hout _) h'

theorem orderE_some {r : List (Nat × Nat)} {A : Tr Nat} {k : List Nat → Option (List (Nat × Nat))} : ∀ {effs R acc : List Nat}, orderE A effs R acc k = some r → ∃ l, k l = some r
  | [], R, acc, h => ⟨_, h⟩
  | e :: effs, R, acc, h => by
    have parts_some : ∀ {m : Nat} {l x y : List Nat} {k : List Nat → List Nat → Option (List (Nat × Nat))}, parts m l x y k = some r → ∃ x' y', k x' y' = some r := by
      intro m l
      induction l with
      | nil => intro x y k h; exact ⟨x, y, h⟩
      | cons i l ih =>
        intro x y k h
        have h' : (Bool.rec (motive := fun _ => Option (List (Nat × Nat))) (parts m l x (i :: y) k) (parts m l (i :: x) y k) (tb m i)) = some r := h
        cases ht : tb m i with
        | false => rw [ht] at h'; exact ih h'
        | true => rw [ht] at h'; exact ih h'
    have h' : (Option.rec (motive := fun _ => Option (List (Nat × Nat))) (k []) (fun m => parts m R [] [] fun x y => parts (bit e) y.reverse [] [] fun _ y' => orderE A effs y'.reverse (e :: (x ++ acc)) k) (A.get e)) = some r := h
    cases hA : A.get e with
    | none => rw [hA] at h'; exact ⟨_, h'⟩
    | some m =>
      rw [hA] at h'
      obtain ⟨x, y, h1⟩ := parts_some h'
      obtain ⟨x', y', h2⟩ := parts_some h1
      exact orderE_some h2

theorem planOf_ok {slots : List (Nat × Nat)} (h : planOf T ops = some slots) : PlanOk T ops slots := by
  unfold planOf at h
  have hs0 : Seen ops 0 .nil .nil .nil := ⟨fun x m hx => (by rw [Tr.get_nil] at hx; cases hx), fun x => (by rw [Tr.get_nil]; simp), fun x o d hx => (by omega)⟩
  obtain ⟨A, W, O, h1, hs⟩ := scan_some (ops := ops) rfl hs0 h
  obtain ⟨acc, h2⟩ := orderE_some h1
  have hc0 : Chk T ops A [] 0 0 [] := {
    bits := fun i => by rw [tb_zero]; simp
    one := fun m m' i lo lo' h => by simp at h
    lt := fun m i lo h => by simp at h
    pred := fun m j lo o i h => by simp at h
    eff := fun m e lo o h => by simp at h
    haz := fun m j lo oj t i oi h => by simp at h
    lo := fun m i lo h => by simp at h
    count := rfl
    effs := by simp [effsTo]
    list := fun d e rest h => by simp at h }
  obtain ⟨done, k, es, hc, hdone⟩ := check_some hs hc0 (fun x => rfl) h2
  have hall : ∀ i, i < ops.length → ∃ (m lo : Nat), slots[m]? = some (i, lo) := fun i hi => by
    refine (hc.bits i).1 ?_
    have e : done = 2 ^ ops.length - 1 := by
      have : Nat.succ done = 1 <<< ops.length := hdone
      rw [Nat.one_shiftLeft] at this
      omega
    rw [tb_eq, e, Nat.testBit_two_pow_sub_one]
    simpa using hi
  exact {
    all := hall
    one := hc.one
    pred := hc.pred
    eff := hc.eff
    wr := fun i j oi oj t h1 h2 h3 h4 => by
      have hi : i < ops.length := by
        rcases Nat.lt_or_ge i ops.length with h | h
        · exact h
        · simp [List.getElem?_eq_none h] at h1
      have hj : j < ops.length := by
        rcases Nat.lt_or_ge j ops.length with h | h
        · exact h
        · simp [List.getElem?_eq_none h] at h2
      have a := hs.writes i oi t hi h1 h3
      have b := hs.writes j oj t hj h2 h4
      rw [a] at b
      exact Option.some.inj b
    haz := fun j oj t i oi h1 h2 h3 h4 => by
      have hj : j < ops.length := by
        rcases Nat.lt_or_ge j ops.length with h | h
        · exact h
        · simp [List.getElem?_eq_none h] at h1
      obtain ⟨m, lo, hm⟩ := hall j hj
      exact hc.haz m j lo oj t i oi hm h1 h2 h3 h4
    lo := hc.lo }
end
end Go.Ab
