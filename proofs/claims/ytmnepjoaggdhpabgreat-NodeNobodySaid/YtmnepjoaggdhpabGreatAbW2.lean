/-
  RUNS OF THE ABSTRACT MACHINE ARE RUNS OF THE MODEL: regions in the text's order; results.
-/
import Derived.Test.YtmnepjoaggdhpabGreatAbW
import Derived.Orders
set_option linter.unusedVariables false
namespace Go.Ab

section
variable {T : Tab} {rec : Rec} {base : Nat → Prop} {nt : Nat} {ρ : Inj} {env : Tr AV} {hp : Hp} {a : Act} {w : World} {o : Oper} {Q : Exit → Act → World → Prop}

/-- What a slot's operation comes to. -/
inductive Does (T : Tab) (rec : Rec) (all : List Oper) (o : Oper) (env : Tr AV) (hp : Hp) : AV → Hp → Prop where
  | run {v : AV} {hp' : Hp} : wantedA o.guard all env = some true → RunsTo T rec o env hp v hp' → Does T rec all o env hp v hp'
  | skip : wantedA o.guard all env = some false → Does T rec all o env hp undefA hp

theorem stepText_does {all : List Oper} {k : Tr AV → Hp → Out} {out : Out} (h : stepText rec T nt all o env hp k = out) (ho : out ≠ .bad) :
    ∃ v hp', Does T rec all o env hp v hp' ∧ (∀ d, o.dst = some d → d < nt) ∧ k (envPut env o.dst v) hp' = out := by
  unfold stepText at h
  split at h
  · rename_i hw
    split at h
    · rename_i v hp' hv
      obtain ⟨h1, h2⟩ := putDst_fin h ho
      exact ⟨v, hp', .run hw (.inl hv), h1, h2⟩
    · rename_i f args hv
      split at h
      · rename_i v hp' hr
        obtain ⟨h1, h2⟩ := putDst_fin h ho
        exact ⟨v, hp', .run hw (.inr ⟨f, args, hv, hr⟩), h1, h2⟩
      · exact absurd h.symm ho
    · exact absurd h.symm ho
  · rename_i hw
    obtain ⟨h1, h2⟩ := putDst_fin h ho
    exact ⟨undefA, hp, .skip hw, h1, h2⟩
  · exact absurd h.symm ho

theorem guard_all {ops : Array Oper} (he : ERel ρ env nt a.tmps) : ∀ g b oj d, o.guard = some (g, b) → ops[g]? = some oj → oj.dst = some d → ∀ x, env.get d = some x → ∃ v, a.tmps[d]? = some v ∧ VRel ρ x v :=
  fun _ _ _ d _ _ _ x hx => he.2 d x hx

theorem does_wp {ops : Array Oper} {i : Nat} {v : AV} {hp' : Hp} {K : Act → World → Prop} (hT : TabOk T) (hg : Good T rec) (hi : ops[i]? = some o) (hS : SRel base nt ρ env hp a w) (hd : Does T rec ops.toList o env hp v hp')
    (hdst : ∀ d, o.dst = some d → d < nt) (hK : ∀ ρ' a' w', To base nt hp.next ρ a w ρ' (envPut env o.dst v) hp' a' w' → K a' w') : wpOp T.P ops Q i K a w := by
  unfold wpOp
  rw [hi]
  dsimp only
  cases hd with
  | run hw hr =>
    rw [wanted_rel (guard_all hS.env) hw]
    simp only [if_true]
    refine .inl (op_wp hT hg (Ops.of (eval_all hS.env)) hS.heap hr fun ρ' v' w' h1 h0 h2 h3 h4 => hK ρ' _ w' ⟨h1, h0, ⟨h2, (hS.env.mono h1.ext).putDst h3 hdst⟩, h4, put_defers _ _ _⟩)
  | skip hw =>
    rw [wanted_rel (guard_all hS.env) hw]
    simp only [Bool.false_eq_true, if_false]
    exact hK ρ _ w ⟨ExtN.refl _ _, Nat.le_refl _, ⟨hS.heap, hS.env.putDst (undef_rel ρ) hdst⟩, Fb.refl _ _, put_defers _ _ _⟩

theorem To.refl (hS : SRel base nt ρ env hp a w) : To base nt hp.next ρ a w ρ env hp a w := ⟨ExtN.refl _ _, Nat.le_refl _, hS, Fb.refl _ _, rfl⟩

theorem text_wp {ops : Array Oper} (hT : TabOk T) (hg : Good T rec) {e : AExit} {env' : Tr AV} {hp' : Hp} {ρ₀ : Inj} {a₀ : Act} {w₀ : World} {N : Nat} : ∀ (l : List Oper) (i : Nat) (ρ : Inj) (env : Tr AV) (hp : Hp) (a : Act) (w : World),
    ops.toList.drop i = l → runText rec T nt ops.toList l env hp = .fin e env' hp' → To base nt N ρ₀ a₀ w₀ ρ env hp a w → wpOps T.P ops (Post base nt N ρ₀ a₀ w₀ (.fin e env' hp')) (List.range' i l.length) a w
  | [], i, ρ, env, hp, a, w, _, h, hto => by
    have h' : Out.fin AExit.normal env hp = .fin e env' hp' := h
    cases h'
    simp only [List.length_nil, List.range'_zero, wpOps]
    exact ⟨rfl, ρ, hto⟩
  | o :: l, i, ρ, env, hp, a, w, hd, h, hto => by
    have h' : stepText rec T nt ops.toList o env hp (runText rec T nt ops.toList l) = .fin e env' hp' := h
    obtain ⟨v, hp1, hdo, hdst, hk⟩ := stepText_does h' (by simp)
    have hi : ops[i]? = some o := by
      rw [← toList_get]
      have := congrArg (·[0]?) hd
      simpa using this
    have hl : ops.toList.drop (i + 1) = l := by
      rw [← List.tail_drop, hd]; rfl
    simp only [List.length_cons, List.range'_succ]
    rw [wpOps_cons]
    refine does_wp hT hg hi hto.st hdo hdst fun ρ' a' w' hto' => ?_
    exact text_wp hT hg l (i + 1) ρ' _ hp1 a' w' hl hk (hto.trans hto')

/-! ### Results -/

theorem result_run (hT : TabOk T) (hS : SRel base nt ρ env hp a w) {g : ResultVar → Sem Value} (g1 : ∀ t, g (.tmp t) = pure (a.tmps.getD t undef)) (g2 : ∀ x t, g (.cell x t) = (do loadVar t (← asAddr (a.tmps.getD x undef))))
    {r : ResultVar} {v : AV} (h : resultA T env hp r = some v) : ∃ v', (g r).run T.P w = .ok v' w ∧ VRel ρ v v' := by
  unfold resultA at h
  split at h
  · rename_i t
    obtain ⟨v', e, hv⟩ := hS.env.2 t v h
    rw [g1]
    exact ⟨v', by simp [e], hv⟩
  · rename_i x t
    rw [g2]
    split at h
    · rename_i i off hx
      obtain ⟨vx, ex, hvx⟩ := hS.env.2 x _ hx
      split at h
      · rename_i n st tr ti hi hti
        have hh : (if ti.agg = true then (readCells tr ti.size off).map AV.agg else tr.get off) = some v := by
          split at h
          · rename_i hagg
            rw [if_pos hagg]
            split at h
            · rename_i l hl
              rw [hl]; exact h
            · cases h
          · rename_i hagg
            rw [hagg]; simpa using h
        obtain ⟨ad, v', e, hrun, hr⟩ := load_var hT hti hS.heap hi hvx hh
        refine ⟨v', ?_, hr⟩
        subst e
        simp [ex, asAddr, hrun]
      · cases h
    · cases h

theorem results_list (hT : TabOk T) (hS : SRel base nt ρ env hp a w) {g : ResultVar → Sem Value} (g1 : ∀ t, g (.tmp t) = pure (a.tmps.getD t undef)) (g2 : ∀ x t, g (.cell x t) = (do loadVar t (← asAddr (a.tmps.getD x undef)))) :
    ∀ {l : List ResultVar} {vs : List AV}, resultsA T env hp l = some vs → ∃ vals, (l.mapM g).run T.P w = .ok vals w ∧ VsRel ρ vs vals
  | [], vs, h => by
    simp [resultsA] at h; subst h
    exact ⟨[], by simp, .nil⟩
  | r :: l, vs, h => by
    simp only [resultsA] at h
    unfold consO at h
    split at h
    · rename_i v hv
      split at h
      · rename_i vs' hvs
        cases h
        obtain ⟨v', h1, h2⟩ := result_run hT hS g1 g2 hv
        obtain ⟨vals, h3, h4⟩ := results_list hT hS g1 g2 hvs
        exact ⟨v' :: vals, by simp [List.mapM_cons, h1, h3], .cons h2 h4⟩
      · cases h
    · cases h

theorem results_of (hT : TabOk T) (hS : SRel base nt ρ env hp a w) {rs : Array ResultVar} {vs : List AV} (hvs : resultsA T env hp rs.toList = some vs) (g : ResultVar → Sem Value)
    (g1 : ∀ t, g (.tmp t) = pure (a.tmps.getD t undef)) (g2 : ∀ x t, g (.cell x t) = (do loadVar t (← asAddr (a.tmps.getD x undef)))) :
    ∃ v', (do let vs ← rs.mapM g; pure (if h : vs.size = 1 then vs[0] else .tuple vs) : Sem Value).run T.P w = .ok v' w ∧ VRel ρ (tupA vs) v' := by
  obtain ⟨vals, h1, h2⟩ := results_list hT hS g1 g2 hvs
  have hm : rs.mapM g = List.toArray <$> rs.toList.mapM g := by
    rw [← List.mapM_toArray, Array.toArray_toList]
  rw [hm]
  simp only [Sem.run_bind, Sem.run_map, h1, Result.andThen_ok, Sem.run_pure]
  refine ⟨_, rfl, ?_⟩
  have hlen := h2.length
  match vs, vals, h2, hlen with
  | [], [], h2, _ => simp [tupA, VRel, VsRel]
  | [x], [y], h2, _ =>
    obtain ⟨y', l, e, hy, _⟩ := h2.cons_inv
    cases e
    simpa [tupA] using hy
  | x :: x' :: xs, y :: y' :: ys, h2, _ =>
    have : ¬ ((y :: y' :: ys).toArray.size = 1) := by simp
    rw [dif_neg this]
    simp only [tupA, VRel]
    exact ⟨_, rfl, h2⟩

theorem leave_run {fn : Func} {v : AV} {hp' : Hp} (hT : TabOk T) (hS : SRel base nt ρ env hp a w) (h : leave T fn env hp = .ret v hp') :
    hp' = hp ∧ ∃ v', (results fn a.tmps).run T.P w = .ok v' w ∧ VRel ρ v v' := by
  unfold leave at h
  split at h
  · rename_i vs hvs
    simp only [Out.ret.injEq] at h
    obtain ⟨rfl, rfl⟩ := h
    refine ⟨rfl, ?_⟩
    unfold results
    exact results_of hT hS hvs _ (fun _ => rfl) (fun _ _ => rfl)
  · cases h

end
end Go.Ab
