/-
  PLANS FOR REGIONS THAT DRAW: an order that was checked is a plan.
-/
import Derived.Test.YtmnepjoaggdhpabGreatAbP2
set_option linter.unusedVariables false
namespace Go.Ab

section
variable {T : Tab} {ops : List Oper} {A W : Tr Nat} {O : Tr Oper}

theorem edgesOk_spec {done : Nat} : ∀ {l : List Edge}, edgesOk done l = true → ∀ e ∈ l, bindsAny e = true → tb done e.on = true
  | [], _, e, he, _ => by cases he
  | x :: l, h, e, he, hb => by
    have h' : (Bool.rec (motive := fun _ => Bool) (edgesOk done l) (Bool.rec (motive := fun _ => Bool) false (edgesOk done l) (tb done x.on)) (bindsAny x)) = true := h
    cases hx : bindsAny x with
    | false =>
      rw [hx] at h'
      rcases List.mem_cons.1 he with rfl | he
      · rw [hx] at hb; cases hb
      · exact edgesOk_spec h' e he hb
    | true =>
      rw [hx] at h'
      cases ht : tb done x.on with
      | false => rw [ht] at h'; cases h'
      | true =>
        rw [ht] at h'
        rcases List.mem_cons.1 he with rfl | he
        · exact ht
        · exact edgesOk_spec h' e he hb

theorem tmpOk_spec (hs : Seen ops ops.length A W O) {j m : Nat} {t : Tmp} (hm : ∀ i, tb m i = true → Bef ops i j) (h : tmpOk A W j m t = true) {i : Nat} {oi : Oper} (ho : ops[i]? = some oi) (hd : oi.dst = some t) :
    i = j ∨ Bef ops i j ∨ Bef ops j i := by
  have hlt : i < ops.length := by
    rcases Nat.lt_or_ge i ops.length with h | h
    · exact h
    · simp [List.getElem?_eq_none h] at ho
  have hw := hs.writes i oi t hlt ho hd
  have h' : (Option.rec (motive := fun _ => Bool) true (fun i => Bool.rec (motive := fun _ => Bool)
    (Bool.rec (motive := fun _ => Bool) (Option.rec (motive := fun _ => Bool) false (fun m' => tb m' j) (A.get i)) true (tb m i)) true (Nat.beq i j)) (W.get t)) = true := h
  rw [hw] at h'
  have h2 : (Bool.rec (motive := fun _ => Bool) (Bool.rec (motive := fun _ => Bool) (Option.rec (motive := fun _ => Bool) false (fun m' => tb m' j) (A.get i)) true (tb m i)) true (Nat.beq i j)) = true := h'
  cases hb : Nat.beq i j with
  | true => exact .inl (Nat.eq_of_beq_eq_true hb)
  | false =>
    rw [hb] at h2
    cases ht : tb m i with
    | true => exact .inr (.inl (hm i ht))
    | false =>
      rw [ht] at h2
      cases hA : A.get i with
      | none => rw [hA] at h2; cases h2
      | some m' =>
        rw [hA] at h2
        exact .inr (.inr (hs.masks i m' hA j h2))

theorem operandsOk_spec {j m : Nat} : ∀ {l : List Operand}, operandsOk A W j m l = true → ∀ t, Operand.tmp t ∈ l → tmpOk A W j m t = true
  | [], _, t, ht => by cases ht
  | x :: l, h, t, ht => by
    have h' : (Bool.rec (motive := fun _ => Bool) false (operandsOk A W j m l) (operandOk A W j m x)) = true := h
    cases hx : operandOk A W j m x with
    | false => rw [hx] at h'; cases h'
    | true =>
      rw [hx] at h'
      rcases List.mem_cons.1 ht with rfl | ht
      · exact hx
      · exact operandsOk_spec h' t ht

theorem looks_spec (hs : Seen ops ops.length A W O) {j m : Nat} {o : Oper} (h1 : operandsOk A W j m o.op.operands.toList = true) (h2 : guardOk A W O j m o.guard = true) {t : Tmp} (ht : t ∈ looks ops o) : tmpOk A W j m t = true := by
  unfold looks at ht
  rcases List.mem_append.1 ht with ht | ht
  · obtain ⟨x, hx, he⟩ := List.mem_filterMap.1 ht
    cases x with
    | tmp u =>
      cases he
      exact operandsOk_spec h1 _ hx
    | _ => cases he
  · cases hg : o.guard with
    | none => rw [hg] at ht; cases ht
    | some gw =>
      obtain ⟨g, b⟩ := gw
      rw [hg] at ht h2
      dsimp only at ht
      cases hog : ops[g]? with
      | none => rw [hog] at ht; cases ht
      | some og =>
        rw [hog] at ht
        simp only [Option.bind_some, Option.mem_toList] at ht
        have hlt : g < ops.length := by
          rcases Nat.lt_or_ge g ops.length with h | h
          · exact h
          · simp [List.getElem?_eq_none h] at hog
        have hO := hs.opers g
        rw [if_pos hlt, hog] at hO
        unfold guardOk at h2
        simp only [hO, ht] at h2
        exact h2

/-- What is known of the slots that were checked. -/
structure Chk (T : Tab) (ops : List Oper) (A : Tr Nat) (pl : List (Nat × Nat)) (done k : Nat) (es : List Nat) : Prop where
  bits : ∀ i, tb done i = true ↔ ∃ (m lo : Nat), pl[m]? = some (i, lo)
  one : ∀ (m m' i lo lo' : Nat), pl[m]? = some (i, lo) → pl[m']? = some (i, lo') → m = m'
  lt : ∀ (m i lo : Nat), pl[m]? = some (i, lo) → i < ops.length
  pred : ∀ (m j lo : Nat) (o : Oper) (i : Nat), pl[m]? = some (j, lo) → ops[j]? = some o → i ∈ preds o → ∃ (m' lo' : Nat), m' < m ∧ pl[m']? = some (i, lo')
  eff : ∀ (m e lo : Nat) (o : Oper), pl[m]? = some (e, lo) → ops[e]? = some o → isEff T o.op = true → ∀ (m' i lo' : Nat), m' < m → pl[m']? = some (i, lo') → Bef ops i e
  haz : ∀ (m j lo : Nat) (oj : Oper) (t : Tmp) (i : Nat) (oi : Oper), pl[m]? = some (j, lo) → ops[j]? = some oj → t ∈ looks ops oj → ops[i]? = some oi → oi.dst = some t → i = j ∨ Bef ops i j ∨ Bef ops j i
  lo : ∀ (m i lo : Nat), pl[m]? = some (i, lo) → lo = 0 ∨ ∃ (q e lo' : Nat) (o : Oper), pl[q]? = some (e, lo') ∧ ops[e]? = some o ∧ isEff T o.op = true ∧ Bef ops e i ∧ effsTo T ops pl (q + 1) = lo
  count : k = es.length
  effs : k = effsTo T ops pl pl.length
  list : ∀ (d : List Nat) (e : Nat) (rest : List Nat), es = d ++ e :: rest → ∃ (q lo' : Nat) (o : Oper), pl[q]? = some (e, lo') ∧ ops[e]? = some o ∧ isEff T o.op = true ∧ effsTo T ops pl (q + 1) = rest.length + 1

theorem lastIn_spec {m : Nat} : ∀ {es : List Nat}, lastIn m es es.length = 0 ∨ ∃ d e rest, es = d ++ e :: rest ∧ tb m e = true ∧ lastIn m es es.length = rest.length + 1
  | [] => .inl rfl
  | e :: es => by
    have hd : lastIn m (e :: es) (e :: es).length = Bool.rec (motive := fun _ => Nat) (lastIn m es es.length) (es.length + 1) (tb m e) := rfl
    rw [hd]
    cases ht : tb m e with
    | true => exact .inr ⟨[], e, es, rfl, ht, rfl⟩
    | false =>
      rcases lastIn_spec (m := m) (es := es) with h | ⟨d, e', rest, h1, h2, h3⟩
      · exact .inl h
      · exact .inr ⟨e :: d, e', rest, by rw [h1]; rfl, h2, h3⟩

theorem slot_append {pl : List (Nat × Nat)} {s x : Nat × Nat} {m : Nat} (h : (pl ++ [s])[m]? = some x) : (m < pl.length ∧ pl[m]? = some x) ∨ (m = pl.length ∧ x = s) := by
  rcases Nat.lt_or_ge m pl.length with hl | hl
  · rw [List.getElem?_append_left hl] at h
    exact .inl ⟨hl, h⟩
  · rw [List.getElem?_append_right hl] at h
    by_cases e : m - pl.length = 0
    · rw [e] at h
      simp at h
      exact .inr ⟨by omega, h.symm⟩
    · have : 1 ≤ m - pl.length := by omega
      rw [List.getElem?_eq_none (by simpa using this)] at h
      cases h

theorem slot_old {pl : List (Nat × Nat)} {s x : Nat × Nat} {m : Nat} (h : pl[m]? = some x) : (pl ++ [s])[m]? = some x := by
  rw [List.getElem?_append_left (slot_lt h)]; exact h

theorem effsTo_old {pl : List (Nat × Nat)} {s : Nat × Nat} {m : Nat} (h : m ≤ pl.length) : effsTo T ops (pl ++ [s]) m = effsTo T ops pl m := by
  unfold effsTo
  rw [List.take_append_of_le_length h]

/-- One more slot. -/
theorem Chk.add (hs : Seen ops ops.length A W O) {pl : List (Nat × Nat)} {done k : Nat} {es : List Nat} (h : Chk T ops A pl done k es) {i m : Nat} {o : Oper} (ho : ops[i]? = some o) (hA : A.get i = some m) (hnot : tb done i = false)
    (hedge : edgesOk done o.after.toList = true) (hopd : operandsOk A W i m o.op.operands.toList = true) (hgd : guardOk A W O i m o.guard = true) {lo k' : Nat} {es' : List Nat}
    (hc : (isEff T o.op = true ∧ Nat.beq (Nat.land done m) done = true ∧ lo = 0 ∧ k' = k + 1 ∧ es' = i :: es) ∨ (isEff T o.op = false ∧ (lo = 0 ∨ lo = lastIn m es k) ∧ k' = k ∧ es' = es)) :
    Chk T ops A (pl ++ [(i, lo)]) (Nat.lor done (bit i)) k' es' := by
  have hm : ∀ x, tb m x = true → Bef ops x i := hs.masks i m hA
  have hnew : (pl ++ [(i, lo)])[pl.length]? = some (i, lo) := by simp
  have hno : ∀ (m lo : Nat), pl[m]? ≠ some (i, lo) := fun m lo hx => by
    have := (h.bits i).2 ⟨m, lo, hx⟩
    rw [hnot] at this; cases this
  have hi : i < ops.length := by
    rcases Nat.lt_or_ge i ops.length with h | h
    · exact h
    · simp [List.getElem?_eq_none h] at ho
  have hee : effAt T ops i = isEff T o.op := by unfold effAt; rw [ho]
  have hsucc : effsTo T ops (pl ++ [(i, lo)]) (pl.length + 1) = effsTo T ops pl pl.length + (if isEff T o.op = true then 1 else 0) := by
    rw [effsTo_succ hnew, effsTo_old (Nat.le_refl _), hee]
  exact {
    bits := fun x => by
      rw [tb_lor, tb_bit, Bool.or_eq_true, decide_eq_true_eq]
      constructor
      · rintro (hx | rfl)
        · obtain ⟨m, lo, h1⟩ := (h.bits x).1 hx
          exact ⟨m, lo, slot_old h1⟩
        · exact ⟨_, _, hnew⟩
      · rintro ⟨m, lo, h1⟩
        rcases slot_append h1 with ⟨_, h2⟩ | ⟨_, h2⟩
        · exact .inl ((h.bits x).2 ⟨m, lo, h2⟩)
        · cases h2; exact .inr rfl
    one := fun m1 m2 x lo1 lo2 h1 h2 => by
      rcases slot_append h1 with ⟨g1, g2⟩ | ⟨g1, g2⟩ <;> rcases slot_append h2 with ⟨g3, g4⟩ | ⟨g3, g4⟩
      · exact h.one _ _ _ _ _ g2 g4
      · cases g4; exact absurd g2 (hno _ _)
      · cases g2; exact absurd g4 (hno _ _)
      · rw [g1, g3]
    lt := fun m1 x lo1 h1 => by
      rcases slot_append h1 with ⟨_, g2⟩ | ⟨_, g2⟩
      · exact h.lt _ _ _ g2
      · cases g2; exact hi
    pred := fun m1 j lo1 oj x h1 hoj hx => by
      rcases slot_append h1 with ⟨_, g2⟩ | ⟨g1, g2⟩
      · obtain ⟨m', lo', g3, g4⟩ := h.pred m1 j lo1 oj x g2 hoj hx
        exact ⟨m', lo', g3, slot_old g4⟩
      · cases g2
        rw [ho] at hoj; cases hoj
        obtain ⟨e, he, hb, rfl⟩ := mem_preds.1 hx
        rw [bindsAny_eq] at hb
        obtain ⟨m', lo', g3⟩ := (h.bits _).1 (edgesOk_spec hedge e he hb)
        exact ⟨m', lo', by rw [g1]; exact slot_lt g3, slot_old g3⟩
    eff := fun m1 e lo1 oe h1 hoe hef m' x lo' hlt hx => by
      rcases slot_append h1 with ⟨g1, g2⟩ | ⟨g1, g2⟩
      · rcases slot_append hx with ⟨_, g4⟩ | ⟨g3, _⟩
        · exact h.eff m1 e lo1 oe g2 hoe hef m' x lo' hlt g4
        · omega
      · cases g2
        rw [ho] at hoe; cases hoe
        rcases slot_append hx with ⟨_, g4⟩ | ⟨g3, _⟩
        · rcases hc with ⟨_, hsub, _⟩ | ⟨hn, _⟩
          · have hd := (h.bits x).2 ⟨_, _, g4⟩
            refine hm x (tb_sub (a := m) (b := done) ?_ hd)
            rw [show Nat.land m done = Nat.land done m from Nat.and_comm m done]; exact hsub
          · rw [hn] at hef; cases hef
        · omega
    haz := fun m1 j lo1 oj t x ox h1 hoj ht hox hd => by
      rcases slot_append h1 with ⟨_, g2⟩ | ⟨_, g2⟩
      · exact h.haz m1 j lo1 oj t x ox g2 hoj ht hox hd
      · cases g2
        rw [ho] at hoj; cases hoj
        exact tmpOk_spec hs hm (looks_spec hs hopd hgd ht) hox hd
    lo := fun m1 x lo1 h1 => by
      rcases slot_append h1 with ⟨_, g2⟩ | ⟨_, g2⟩
      · rcases h.lo m1 x lo1 g2 with h0 | ⟨q, e, lo', oe, k1, k2, k3, k4, k5⟩
        · exact .inl h0
        · exact .inr ⟨q, e, lo', oe, slot_old k1, k2, k3, k4, by rw [effsTo_old (slot_lt k1)]; exact k5⟩
      · cases g2
        rcases hc with ⟨_, _, h0, _⟩ | ⟨_, h0 | h0, _⟩
        · exact .inl h0
        · exact .inl h0
        · rw [h.count] at h0
          rcases lastIn_spec (m := m) (es := es) with hz | ⟨d, e, rest, k1, k2, k3⟩
          · exact .inl (h0.trans hz)
          · obtain ⟨q, lo', oe, k4, k5, k6, k7⟩ := h.list d e rest k1
            exact .inr ⟨q, e, lo', oe, slot_old k4, k5, k6, hm e k2, by rw [effsTo_old (slot_lt k4), k7, h0, k3]⟩
    count := by
      rcases hc with ⟨_, _, _, rfl, rfl⟩ | ⟨_, _, rfl, rfl⟩
      · rw [h.count]; rfl
      · exact h.count
    effs := by
      rw [List.length_append]
      show k' = effsTo T ops (pl ++ [(i, lo)]) (pl.length + 1)
      rw [hsucc]
      rcases hc with ⟨he, _, _, rfl, _⟩ | ⟨he, _, rfl, _⟩
      · rw [← h.effs]; simp [he]
      · rw [← h.effs]; simp [he]
    list := fun d e rest hes => by
      have old : ∀ d, es = d ++ e :: rest → ∃ (q lo' : Nat) (o' : Oper), (pl ++ [(i, lo)])[q]? = some (e, lo') ∧ ops[e]? = some o' ∧ isEff T o'.op = true ∧ effsTo T ops (pl ++ [(i, lo)]) (q + 1) = rest.length + 1 := fun d hd => by
        obtain ⟨q, lo', oe, k4, k5, k6, k7⟩ := h.list d e rest hd
        exact ⟨q, lo', oe, slot_old k4, k5, k6, by rw [effsTo_old (slot_lt k4)]; exact k7⟩
      rcases hc with ⟨he, _, _, _, rfl⟩ | ⟨_, _, _, rfl⟩
      · cases d with
        | nil =>
          simp at hes
          obtain ⟨rfl, rfl⟩ := hes
          refine ⟨pl.length, lo, o, hnew, ho, he, ?_⟩
          rw [hsucc, ← h.effs, h.count]; simp [he]
        | cons x d =>
          simp at hes
          exact old d hes.2
      · exact old d hes }

end
end Go.Ab
