/-
  RUNS OF THE ABSTRACT MACHINE ARE RUNS OF THE MODEL: what that means; one operation.
-/
import Derived.Test.YtmnepjoaggdhpabGreatAbN2
import Derived.Scope
set_option linter.unusedVariables false
namespace Go.Ab

/-- What a step leaves alone: all blocks but some. -/
structure Fb (base : Nat → Prop) (w w' : World) : Prop where
  heap : ∀ b, ¬ base b → w'.heap[b]? = w.heap[b]?
  size : w.heap.size ≤ w'.heap.size
  rest : w'.os = w.os ∧ w'.output = w.output ∧ w'.tape = w.tape

theorem Fb.refl (base : Nat → Prop) (w : World) : Fb base w w := ⟨fun _ _ => rfl, Nat.le_refl _, ⟨rfl, rfl, rfl⟩⟩
theorem Fb.trans {base : Nat → Prop} {w w' w'' : World} (h : Fb base w w') (h' : Fb base w' w'') : Fb base w w'' :=
  ⟨fun b hb => (h'.heap b hb).trans (h.heap b hb), Nat.le_trans h.size h'.size, ⟨h'.rest.1.trans h.rest.1, h'.rest.2.1.trans h.rest.2.1, h'.rest.2.2.trans h.rest.2.2⟩⟩

theorem Fr.fb {base : Nat → Prop} {ρ : Inj} {hp : Hp} {w w' : World} (hH : HRel ρ hp w base) (h : Fr ρ hp w w') : Fb base w w' := by
  refine ⟨fun b hb => ?_, h.size, h.rest⟩
  rcases Nat.lt_or_ge b w.heap.size with hlt | hge
  · refine h.heap b hlt fun i o l hi hl e => hb ?_
    obtain ⟨l', hl', hbl, _⟩ := hH.obj i o hi
    rw [hl] at hl'; cases hl'
    rw [← e]; exact hbl
  · exact absurd (hH.size b hge) hb

/-- The machine's and the model's state, and the temporaries. -/
structure SRel (base : Nat → Prop) (nt : Nat) (ρ : Inj) (env : Tr AV) (hp : Hp) (a : Act) (w : World) : Prop where
  heap : HRel ρ hp w base
  env : ERel ρ env nt a.tmps

/-- From one state to another. -/
structure To (base : Nat → Prop) (nt N : Nat) (ρ : Inj) (a : Act) (w : World) (ρ' : Inj) (env' : Tr AV) (hp' : Hp) (a' : Act) (w' : World) : Prop where
  ext : ExtN N ρ ρ'
  next : N ≤ hp'.next
  st : SRel base nt ρ' env' hp' a' w'
  fb : Fb base w w'
  defers : a'.defers = a.defers

theorem ExtN.trans {N N' : Nat} {ρ ρ' ρ'' : Inj} (h : ExtN N ρ ρ') (hn : N ≤ N') (h' : ExtN N' ρ' ρ'') : ExtN N ρ ρ'' :=
  ⟨h.ext.trans h'.ext, fun i hi => (h'.old i (Nat.lt_of_lt_of_le hi hn)).trans (h.old i hi)⟩

theorem To.trans {base : Nat → Prop} {nt N : Nat} {ρ ρ' ρ'' : Inj} {a a' a'' : Act} {w w' w'' : World} {env' env'' : Tr AV} {hp' hp'' : Hp}
    (h : To base nt N ρ a w ρ' env' hp' a' w') (h' : To base nt hp'.next ρ' a' w' ρ'' env'' hp'' a'' w'') : To base nt N ρ a w ρ'' env'' hp'' a'' w'' :=
  ⟨h.ext.trans h.next h'.ext, Nat.le_trans h.next h'.next, h'.st, h.fb.trans h'.fb, h'.defers.trans h.defers⟩

def AExit.ex : AExit → Exit
  | .normal => .normal
  | .exit id => .exit id
  | .goto l => .goto l
  | .ret => .ret

/-- The beginnings of a piece of code. -/
inductive Starts : Code → Item → Prop where
  | code (c : Code) : Starts c (.code c)
  | loop (b : Code) : Starts (.loop b) (.inLoop b)

def Post (base : Nat → Prop) (nt N : Nat) (ρ : Inj) (a : Act) (w : World) : Out → Exit → Act → World → Prop
  | .fin e env' hp', x, a', w' => x = e.ex ∧ ∃ ρ', To base nt N ρ a w ρ' env' hp' a' w'
  | _, _, _, _ => False

def CallPost (base : Nat → Prop) (N : Nat) (ρ : Inj) (w : World) (v : AV) (hp' : Hp) (e : Ending) (w' : World) : Prop :=
  ∃ v' ρ', e = .returned v' ∧ ExtN N ρ ρ' ∧ N ≤ hp'.next ∧ HRel ρ' hp' w' base ∧ VRel ρ' v v' ∧ Fb base w w'

/-- A machine that runs pieces of code as the model does. -/
structure Good (T : Tab) (rec : Rec) : Prop where
  code : ∀ (c : Code) (nt : Nat) (env : Tr AV) (hp : Hp) (e : AExit) (env' : Tr AV) (hp' : Hp), rec (.code c nt env) hp = .fin e env' hp' →
    ∀ (base : Nat → Prop) (ρ : Inj) (a : Act) (w : World), SRel base nt ρ env hp a w → ∀ (it : Item), Starts c it → ∀ (b : Frame) (k : List Item) (cs : List Frame),
      ∃ a' w', Post base nt hp.next ρ a w (.fin e env' hp') e.ex a' w' ∧ Arrives T.P (lone (b.at a (it :: k)) cs w) b k cs e.ex a' w'
  scope : ∀ (c at_ : Code) (nt : Nat) (env : Tr AV) (hp : Hp) (e : AExit) (env' : Tr AV) (hp' : Hp), rec (.scope c at_ nt env) hp = .fin e env' hp' →
    ∀ (base : Nat → Prop) (ρ : Inj) (a : Act) (w : World), SRel base nt ρ env hp a w → ∀ (b : Frame) (k : List Item) (cs : List Frame),
      ∃ a' w', Post base nt hp.next ρ a w (.fin e env' hp') e.ex a' w' ∧ Arrives T.P (lone (b.at a (.code at_ :: .inScope c :: k)) cs w) b k cs e.ex a' w'
  call : ∀ (f : FuncId) (args : List AV) (hp : Hp) (v : AV) (hp' : Hp), rec (.call f args) hp = .ret v hp' →
    (∃ fn c, T.fns.get f = some fn ∧ fn.body = some c) ∧
    ∀ (base : Nat → Prop) (ρ : Inj) (w : World) (vargs : Array Value), HRel ρ hp w base → VsRel ρ args vargs.toList → Calls T.P f vargs w (CallPost base hp.next ρ w v hp')
  mono : ∀ (t : Task) (hp : Hp), (∀ e env' hp', rec t hp = .fin e env' hp' → hp.next ≤ hp'.next) ∧ (∀ v hp', rec t hp = .ret v hp' → hp.next ≤ hp'.next)
  nofin : ∀ (f : FuncId) (args : List AV) (hp : Hp) (e : AExit) (env' : Tr AV) (hp' : Hp), rec (.call f args) hp ≠ .fin e env' hp'

/-! ### Temporaries -/

theorem put_size (a : Act) (dst : Option Tmp) (v : Value) : (a.put dst v).tmps.size = a.tmps.size := by cases dst <;> simp [Act.put]

theorem ERel.put {ρ : Inj} {env : Tr AV} {nt : Nat} {a : Act} {v : AV} {v' : Value} {d : Tmp} (he : ERel ρ env nt a.tmps) (hv : VRel ρ v v') (hd : d < nt) :
    ERel ρ (env.put d v) nt (a.put (some d) v').tmps := by
  refine ⟨by rw [put_size]; exact he.1, fun t x hx => ?_⟩
  rw [Tr.get_put] at hx
  have hsz := he.1
  by_cases e : t = d
  · subst e
    simp at hx; subst hx
    refine ⟨v', ?_, hv⟩
    simp only [Act.put]
    rw [Array.getElem?_setIfInBounds_self_of_lt]
    exact Nat.lt_of_lt_of_eq hd hsz.symm
  · rw [if_neg e] at hx
    obtain ⟨u, hu, hr⟩ := he.2 t x hx
    refine ⟨u, ?_, hr⟩
    simp only [Act.put]
    rw [Array.getElem?_setIfInBounds_ne (fun h => e h.symm)]
    exact hu

/-- What putDst goes on with. -/
noncomputable def envPut (env : Tr AV) (dst : Option Tmp) (v : AV) : Tr AV :=
  match dst with
  | none => env
  | some d => env.put d v

theorem putDst_fin {nt : Nat} {env : Tr AV} {dst : Option Tmp} {v : AV} {k : Tr AV → Out} {o : Out} (h : putDst nt env dst v k = o) (ho : o ≠ .bad) :
    (∀ d, dst = some d → d < nt) ∧ k (envPut env dst v) = o := by
  unfold putDst at h
  cases dst with
  | none => exact ⟨fun d e => (by cases e), h⟩
  | some d =>
    dsimp only at h
    split at h
    · rename_i hlt
      rw [blt_iff] at hlt
      rw [Tr.set_eq] at h
      exact ⟨fun d' e => (by cases e; exact of_decide_eq_true hlt), h⟩
    · exact absurd h.symm ho

theorem ERel.putDst {ρ : Inj} {env : Tr AV} {nt : Nat} {a : Act} {v : AV} {v' : Value} {dst : Option Tmp} (he : ERel ρ env nt a.tmps) (hv : VRel ρ v v') (hd : ∀ d, dst = some d → d < nt) :
    ERel ρ (envPut env dst v) nt (a.put dst v').tmps := by
  cases dst with
  | none => exact he
  | some d => exact he.put hv (hd d rfl)

theorem wanted_rel {ρ : Inj} {env : Tr AV} {a : Act} {ops : Array Oper} {o : Oper} {b : Bool}
    (he : ∀ g b oj d, o.guard = some (g, b) → ops[g]? = some oj → oj.dst = some d → ∀ x, env.get d = some x → ∃ v, a.tmps[d]? = some v ∧ VRel ρ x v) (h : wantedA o.guard ops.toList env = some b) :
    Region.wanted o (yielded ops a.tmps) = b := by
  unfold wantedA at h
  unfold Region.wanted
  split at h
  · rename_i hg
    rw [hg]; simpa using h
  · rename_i j want hg
    rw [hg]
    dsimp only
    split at h
    · rename_i oj hoj
      rw [toList_get] at hoj
      split at h
      · rename_i d hd
        split at h
        · rename_i b' hb'
          simp only [forceB_eq, Option.some.injEq] at h
          subst h
          obtain ⟨v, hv, hr⟩ := he j want oj d hg hoj hd _ hb'
          have e := raw_rel hr
          subst e
          unfold yielded
          simp [hoj, hd, hv]
        · rename_i hb'
          simp only [Option.some.injEq] at h
          subst h
          obtain ⟨v, hv, hr⟩ := he j want oj d hg hoj hd _ hb'
          simp only [VRel] at hr
          obtain ⟨c, rfl, _⟩ := hr
          unfold yielded
          simp [hoj, hd, hv]
        · cases h
      · cases h
    · cases h

theorem eval_all {ρ : Inj} {env : Tr AV} {nt : Nat} {a : Act} (he : ERel ρ env nt a.tmps) : ∀ x v, eval x env = some v → VRel ρ v (a.eval x) := fun _ _ h => eval_rel he h

theorem undef_rel (ρ : Inj) : VRel ρ undefA undef := by simp [undefA, VRel, undef, VsRel]

/-! ### One operation -/

section
variable {T : Tab} {rec : Rec} {base : Nat → Prop} {nt : Nat} {ρ : Inj} {env : Tr AV} {hp : Hp} {a : Act} {w : World} {o : Oper} {Q : Exit → Act → World → Prop} {K : Act → World → Prop}

theorem put_defers (a : Act) (dst : Option Tmp) (v : Value) : (a.put dst v).defers = a.defers := by cases dst <;> rfl

/-- What an operation that was run comes to: as the machine's, wherever the temporaries are. -/
def RunsTo (T : Tab) (rec : Rec) (o : Oper) (env : Tr AV) (hp : Hp) (v : AV) (hp' : Hp) : Prop :=
  opA o.op T env hp = some (.val v hp') ∨ ∃ f args, opA o.op T env hp = some (.call f args) ∧ rec (.call f args) hp = .ret v hp'

theorem op_wp {v : AV} {hp' : Hp} (hT : TabOk T) (hg : Good T rec) (hev : Ops ρ env a.eval o.op.operands.toList) (hH : HRel ρ hp w base) (h : RunsTo T rec o env hp v hp')
    (hK : ∀ ρ' v' w', ExtN hp.next ρ ρ' → hp.next ≤ hp'.next → HRel ρ' hp' w' base → VRel ρ' v v' → Fb base w w' → K (a.put o.dst v') w') : o.wp T.P a w K Q := by
  unfold Oper.wp
  rcases h with h | ⟨f, args, h, hr⟩
  · obtain ⟨ρ', n, v', w', h1, h2, h3, h4, h5, h6⟩ := opA_val hT hev hH h
    rw [h1]
    have hk := hK ρ' v' w' h3 (opA_next h) h4 h5 (h6.fb hH)
    cases n <;> simp only [Next.yields] at h2 <;> first | cases h2 | skip
    · exact hk
    · exact hk
  · obtain ⟨⟨fn, c, hf, hb⟩, hcall⟩ := hg.call f args hp v hp' hr
    obtain ⟨vargs, h1, h2⟩ := opA_call (w := w) hT hev h hf hb
    rw [h1, Oper.upon_enter]
    refine (hcall base ρ w vargs hH h2).mono fun e w' he => ?_
    obtain ⟨v', ρ', rfl, g1, g2, g3, g4, g5⟩ := he
    exact hK ρ' v' w' g1 g2 g3 g4 g5

end
end Go.Ab
