/-
  TABLES: what a program's own facts say of them.
-/
import Derived.Test.YtmnepjoaggdhpabGreatAbI3
import Derived.Below
set_option linter.unusedVariables false
namespace Go.Ab

section
variable {P : Program} {t : TypeId}

theorem int_und {e : TypeId} {k : IntKind} (h : P.underlying e = some (.int k)) (w : World) : (underlying e).run P w = .ok (.int k) w := by simp [underlying, h]
theorem int_agg {e : TypeId} {k : IntKind} (h : P.underlying e = some (.int k)) (w : World) : (isAgg e).run P w = .ok false w := by
  simp only [isAgg, Sem.run_bind, int_und h, Result.andThen_ok]; rfl

theorem part_int {e : TypeId} {k : IntKind} (h : P.underlying e = some (.int k)) {cs : Array Value} {off : Nat} {v : Value} (hv : cs[off]? = some v) (w : World) : (part e cs off).run P w = .ok v w := by
  simp only [part, Sem.run_bind, int_agg h, Result.andThen_ok, hv]
  rfl

theorem equalIn_int {e : TypeId} {k : IntKind} (h : P.underlying e = some (.int k)) (n : Nat) {kk kk' : IntKind} {a b : Int} (hk : kk = kk') (w : World) :
    (Op.equalIn (n + 1) e (.int kk a) (.int kk' b)).run P w = .ok (a == b) w := by
  rw [Op.equalIn]
  simp only [Sem.run_bind, int_und h, Result.andThen_ok, hk, if_true, Sem.run_pure]

theorem checkKey_int {e : TypeId} {k : IntKind} (h : P.underlying e = some (.int k)) (b : Bool) (n : Nat) (v : Value) (w : World) : (Instr.checkKey b (n + 1) e v).run P w = .ok () w := by
  rw [Instr.checkKey]
  simp only [Sem.run_bind, int_und h, Result.andThen_ok]
  rfl

/-- Lists of integers, compared. -/
theorem keysEq_cons {x y : AV} {as bs : List AV} {r : Bool} (h : keysEq (x :: as) (y :: bs) = some r) :
    ∃ k a b r', x = .raw (.int k a) ∧ y = .raw (.int k b) ∧ keysEq as bs = some r' ∧ r = ((a == b) && r') := by
  unfold keysEq at h
  split at h
  · rename_i e; cases e
  · rename_i u us v vs e1 e2
    cases e1; cases e2
    split at h
    · rename_i he
      have := intsEq_true he
      subst this
      unfold intsEq at he
      split at he
      · exact ⟨_, _, _, r, rfl, rfl, h, by simp⟩
      · cases he
    · rename_i he
      split at h
      · rename_i r' hr
        unfold intsEq at he
        split at he
        · rename_i k a k' b
          split at he
          · rename_i hk
            rw [kindEq_iff] at hk
            have hk' := of_decide_eq_true hk
            subst hk'
            cases h
            refine ⟨k, a, b, r', rfl, rfl, hr, ?_⟩
            rw [intEq_eq] at he
            have : decide (a = b) = false := by simpa using he
            have h2 : (a == b) = false := by simpa using this
            rw [h2]; rfl
          · cases he
        · cases he
      · cases h
    · cases h
  · cases h

theorem keysEq_nil {as : List AV} {r : Bool} (h : keysEq [] as = some r) : as = [] ∧ r = true := by
  cases as with
  | nil => unfold keysEq at h; cases h; exact ⟨rfl, rfl⟩
  | cons x xs => simp [keysEq] at h

theorem raw_cons {ρ : Inj} {v : Value} {as : List AV} {l : List Value} (h : VsRel ρ (.raw v :: as) l) : ∃ vs, l = v :: vs ∧ VsRel ρ as vs := by
  obtain ⟨x, vs, rfl, h1, h2⟩ := h.cons_inv
  rw [raw_rel h1]
  exact ⟨vs, rfl, h2⟩

/-- A struct of two integers. -/
theorem plain_two {f0 f1 : Field} {k0 k1 : IntKind} (h : P.underlying t = some (.struct #[f0, f1])) (h0 : P.underlying f0.type = some (.int k0)) (h1 : P.underlying f1.type = some (.int k1))
    (n0 : f0.name ≠ "_") (n1 : f1.name ≠ "_") (o0 : f0.offset = 0) (o1 : f1.offset = 1) (hs : P.stoodInHeld t = false) (hg : P.eqGuardType P.depth t = false) : PlainT P t 2 where
  guard := hg
  eq := fun as bs xs ys r ρ w hl hk hx hy => by
    match as, hl with
    | [a0, a1], _ =>
      match bs with
      | [] => simp [keysEq] at hk
      | b0 :: bs =>
        obtain ⟨k, a, b, r', rfl, rfl, hk2, rfl⟩ := keysEq_cons hk
        match bs with
        | [] => simp [keysEq] at hk2
        | b1 :: bs =>
          obtain ⟨k', a', b', r'', rfl, rfl, hk3, rfl⟩ := keysEq_cons hk2
          obtain ⟨rfl, rfl⟩ := keysEq_nil hk3
          obtain ⟨vs, e1, hx1⟩ := raw_cons hx
          obtain ⟨vs1, e2, hx2⟩ := raw_cons hx1
          rw [VsRel.nil_iff] at hx2
          subst hx2; subst e2
          obtain ⟨ws, e3, hy1⟩ := raw_cons hy
          obtain ⟨ws1, e4, hy2⟩ := raw_cons hy1
          rw [VsRel.nil_iff] at hy2
          subst hy2; subst e4
          have ex : xs = #[.int k a, .int k' a'] := Array.ext' e1
          have ey : ys = #[.int k b, .int k' b'] := Array.ext' e3
          subst ex; subst ey
          have hu : (underlying t).run P w = .ok (.struct #[f0, f1]) w := by simp [underlying, h]
          show (Op.equalIn (9999 + 1) t _ _).run P w = _
          rw [Op.equalIn]
          simp only [Sem.run_bind, hu, Result.andThen_ok]
          by_cases ha : a = b <;> by_cases hb : a' = b' <;> simp [hs, n0, n1, o0, o1, part_int h0, part_int h1, equalIn_int h0 9998 rfl, equalIn_int h1 9998 rfl, ha, hb]
  key := fun as bs xs r ρ w e hl hk hx => by
    match as, hl with
    | [a0, a1], _ =>
      have hu : (underlying t).run P w = .ok (.struct #[f0, f1]) w := by simp [underlying, h]
      have hx' := hx
      obtain ⟨v0, vs, e1, _, hx1⟩ := hx.cons_inv
      obtain ⟨v1, vs1, e2, _, hx2⟩ := hx1.cons_inv
      rw [VsRel.nil_iff] at hx2
      subst hx2; subst e2
      have ex : xs = #[v0, v1] := Array.ext' e1
      subst ex
      have key : ∀ n, (Instr.checkKey e (n + 1 + 1) t (.agg #[v0, v1])).run P w = .ok () w := by
        intro n
        rw [Instr.checkKey]
        simp only [Sem.run_bind, hu, Result.andThen_ok]
        simp [n0, n1, o0, o1, part_int h0, part_int h1, checkKey_int h0, checkKey_int h1]
      exact key 9998

/-- An array of three integers. -/
theorem plain_arr3 {e : TypeId} {k0 : IntKind} {i : TypeInfo} (h : P.underlying t = some (.array 3 e)) (h0 : P.underlying e = some (.int k0)) (hi : P.info? e = some i) (h1 : i.size = 1)
    (hg : P.eqGuardType P.depth t = false) : PlainT P t 3 where
  guard := hg
  eq := fun as bs xs ys r ρ w hl hk hx hy => by
    match as, hl with
    | [a0, a1, a2], _ =>
      match bs with
      | [] => simp [keysEq] at hk
      | b0 :: bs =>
        obtain ⟨k, a, b, r', rfl, rfl, hk2, rfl⟩ := keysEq_cons hk
        match bs with
        | [] => simp [keysEq] at hk2
        | b1 :: bs =>
          obtain ⟨k', a', b', r'', rfl, rfl, hk3, rfl⟩ := keysEq_cons hk2
          match bs with
          | [] => simp [keysEq] at hk3
          | b2 :: bs =>
            obtain ⟨k'', a'', b'', r3, rfl, rfl, hk4, rfl⟩ := keysEq_cons hk3
            obtain ⟨rfl, rfl⟩ := keysEq_nil hk4
            obtain ⟨vs, e1, hx1⟩ := raw_cons hx
            obtain ⟨vs1, e2, hx2⟩ := raw_cons hx1
            obtain ⟨vs2, e3, hx3⟩ := raw_cons hx2
            rw [VsRel.nil_iff] at hx3
            subst hx3; subst e3; subst e2
            obtain ⟨ws, f1, hy1⟩ := raw_cons hy
            obtain ⟨ws1, f2, hy2⟩ := raw_cons hy1
            obtain ⟨ws2, f3, hy3⟩ := raw_cons hy2
            rw [VsRel.nil_iff] at hy3
            subst hy3; subst f3; subst f2
            have ex : xs = #[.int k a, .int k' a', .int k'' a''] := Array.ext' e1
            have ey : ys = #[.int k b, .int k' b', .int k'' b''] := Array.ext' f1
            subst ex; subst ey
            have hu : (underlying t).run P w = .ok (.array 3 e) w := by simp [underlying, h]
            have hsz : (sizeOf e).run P w = .ok 1 w := by simp [sizeOf, typeInfo, hi, h1]
            show (Op.equalIn (9999 + 1) t _ _).run P w = _
            rw [Op.equalIn]
            simp only [Sem.run_bind, hu, Result.andThen_ok]
            by_cases ha : a = b <;> by_cases hb : a' = b' <;> by_cases hc : a'' = b'' <;> simp [hsz, part_int h0, equalIn_int h0 9998 rfl, ha, hb, hc, Std.Legacy.Range.forIn_eq_forIn_range', Std.Legacy.Range.size, List.range']
  key := fun as bs xs r ρ w ee hl hk hx => by
    match as, hl with
    | [a0, a1, a2], _ =>
      have hu : (underlying t).run P w = .ok (.array 3 e) w := by simp [underlying, h]
      have hsz : (sizeOf e).run P w = .ok 1 w := by simp [sizeOf, typeInfo, hi, h1]
      obtain ⟨v0, vs, e1, _, hx1⟩ := hx.cons_inv
      obtain ⟨v1, vs1, e2, _, hx2⟩ := hx1.cons_inv
      obtain ⟨v2, vs2, e3, _, hx3⟩ := hx2.cons_inv
      rw [VsRel.nil_iff] at hx3
      subst hx3; subst e3; subst e2
      have ex : xs = #[v0, v1, v2] := Array.ext' e1
      subst ex
      have key : ∀ n, (Instr.checkKey ee (n + 1 + 1) t (.agg #[v0, v1, v2])).run P w = .ok () w := by
        intro n
        rw [Instr.checkKey]
        simp only [Sem.run_bind, hu, Result.andThen_ok]
        simp [hsz, part_int h0, checkKey_int h0, Std.Legacy.Range.forIn_eq_forIn_range', Std.Legacy.Range.size, List.range']
      exact key 9998

/-! ### Tables out of lists -/

theorem ofPairs_get {α : Type} : ∀ {l : List (Nat × α)} {t : Tr α} {i : Nat} {x : α}, (ofPairs l t).get i = some x → (i, x) ∈ l ∨ t.get i = some x
  | [], t, i, x, h => .inr h
  | (j, y) :: l, t, i, x, h => by
    have h' : (t.set j y fun t => ofPairs l t).get i = some x := h
    rw [Tr.set_eq] at h'
    rcases ofPairs_get h' with h1 | h1
    · exact .inl (List.mem_cons_of_mem _ h1)
    · rw [Tr.get_put] at h1
      by_cases e : i = j
      · subst e
        rw [if_pos rfl] at h1; cases h1
        exact .inl List.mem_cons_self
      · rw [if_neg e] at h1
        exact .inr h1

theorem ofPairs_nil {α : Type} {l : List (Nat × α)} {i : Nat} {x : α} (h : (ofPairs l .nil).get i = some x) : (i, x) ∈ l := by
  rcases ofPairs_get h with h1 | h1
  · exact h1
  · rw [Tr.get_nil] at h1; cases h1

theorem isAggD_eq (d : TypeDesc) : (match d with | .struct _ | .array _ _ => true | _ => false) = isAggD d := by cases d <;> rfl

theorem leaf_cells {v : Value} {z : List AV} (h : leaves [v] = some z) (hn : ∀ c, v ≠ .agg c) : leaves v.cells.toList = some z ∧ v.oneCell' = true := by
  have h1 : v.oneCell' = true := by
    unfold leaves at h
    split at h
    · rename_i a ha
      exact (leaf_rel (ρ := fun _ => none) ha).2
    · cases h
  rw [oneCell_cells h1]
  exact ⟨h, h1⟩

/-- A type's row. -/
theorem tyOk_mk {i u : TypeInfo} {plain : Bool} (hi : P.info? t = some i) (hu : P.underlying t = some u.desc) (hp : plain = true → PlainT P t i.size) : TyOk P t (mkTy i u plain) where
  und := hu
  agg := isAggD_eq u.desc
  plain := hp
  info := by
    refine ⟨i, hi, rfl, rfl, fun z hz => ?_⟩
    have ha : (mkTy i u plain).agg = isAggD u.desc := isAggD_eq u.desc
    rw [ha]
    have hz' : (match i.zero with | some (.agg c) => (match u.desc with | .struct _ | .array _ _ => leaves c.toList | _ => none) | some v => (match u.desc with | .struct _ | .array _ _ => none | _ => leaves [v]) | none => none) = some z := hz
    cases hz0 : i.zero with
    | none => rw [hz0] at hz'; cases hz'
    | some v =>
      rw [hz0] at hz'
      refine ⟨v, rfl, ?_⟩
      cases hd : u.desc with
      | struct fs =>
        rw [hd] at hz'
        cases v with
        | agg c => exact ⟨hz', (fun _ => ⟨c, rfl⟩), (fun h => by cases h)⟩
        | _ => cases hz'
      | array n e =>
        rw [hd] at hz'
        cases v with
        | agg c => exact ⟨hz', (fun _ => ⟨c, rfl⟩), (fun h => by cases h)⟩
        | _ => cases hz'
      | _ =>
        rw [hd] at hz'
        cases v with
        | agg c => cases hz'
        | _ =>
          have h := leaf_cells hz' (fun c h => by cases h)
          exact ⟨h.1, (fun h => by cases h), fun _ => h.2⟩

theorem tabOk_mk {fl : List (Nat × Func)} {tl : List (Nat × TyI)} (hf : ∀ p ∈ fl, P.funcs[p.1]? = some p.2 ∧ p.2.name ≠ "runtime.NumGoroutine") (ht : ∀ p ∈ tl, TyOk P p.1 p.2) (hm : P.follows .mixedOrders = true) {x : FuncId → Bool}
    (hx : ∀ f, x f = true → ∃ fn, P.funcs[f]? = some fn ∧ (fn.name == "runtime.NumGoroutine") = false ∧ fn.body.isNone = true ∧ Extern.findNext fn = none ∧ Extern.find fn = some Extern.AbiNoEscape.same) :
    TabOk { P := P, fns := ofPairs fl .nil, tys := ofPairs tl .nil, ext := x } where
  fn := fun i f h => hf (i, f) (ofPairs_nil h)
  ty := fun t x h => ht (t, x) (ofPairs_nil h)
  mixed := hm
  ext := hx

/-- All runs of a table's machine. -/
theorem runM_good {T : Tab} (hT : TabOk T) (n : Nat) : Good T (runM T n) := by
  rw [runM_eq]
  exact run_good hT (fun rec hg => draws_of hT hg fun ops slots h => planOf_ok h) n

theorem HRel.nil (w : World) : HRel (fun _ => none) ⟨.nil, 0⟩ w (fun b => w.heap.size ≤ b) where
  obj := fun i o h => by rw [Tr.get_nil] at h; cases h
  inj := fun i j o o' l l' h => by rw [Tr.get_nil] at h; cases h
  fresh := fun _ _ => rfl
  size := fun _ h => h

def isTrue : Out → Bool
  | .ret (.raw (.bool true)) _ => true
  | _ => false

/-- A call that the machine sees come to true, from no memory at all. -/
theorem calls_true {T : Tab} (hT : TabOk T) {n : Nat} {f : FuncId} {args : List AV} (h : isTrue (runM T n (.call f args) ⟨.nil, 0⟩) = true) (w : World) {vargs : Array Value} (hr : VsRel (fun _ => none) args vargs.toList) :
    Calls T.P f vargs w fun e w' => e = .returned (.bool true) ∧ Go.RowKit.Below w.heap.size w w' := by
  have hg := runM_good hT n
  cases ho : runM T n (.call f args) ⟨.nil, 0⟩ with
  | ret v hp =>
    rw [ho] at h
    have hv : v = .raw (.bool true) := by
      unfold isTrue at h
      split at h
      · rename_i e
        cases e; rfl
      · cases h
    subst hv
    have := (hg.call f args _ _ _ ho).2 (fun b => w.heap.size ≤ b) (fun _ => none) w vargs (HRel.nil w) hr
    refine this.mono fun e w' hp' => ?_
    obtain ⟨v', ρ', rfl, _, _, _, hrel, hfb⟩ := hp'
    have := raw_rel hrel
    subst this
    exact ⟨rfl, hfb.rest.1, hfb.rest.2.2, hfb.rest.2.1, hfb.size, fun b hb => hfb.heap b (by omega)⟩
  | fin e env hp => rw [ho] at h; cases h
  | bad => rw [ho] at h; cases h

end
end Go.Ab
