/-
  RUNS OF THE ABSTRACT MACHINE ARE RUNS OF THE MODEL: code, calls.
-/
import Derived.Test.YtmnepjoaggdhpabGreatAbW2
set_option linter.unusedVariables false
namespace Go.Ab

section
variable {T : Tab} {rec : Rec} {base : Nat → Prop} {nt : Nat} {ρ : Inj} {env : Tr AV} {hp : Hp} {a : Act} {w : World} {o : Oper} {Q : Exit → Act → World → Prop}

theorem thenN_fin {o : Out} {k : Tr AV → Hp → Out} {e : AExit} {env' : Tr AV} {hp' : Hp} (h : o.thenN k = .fin e env' hp') :
    (∃ env1 hp1, o = .fin .normal env1 hp1 ∧ k env1 hp1 = .fin e env' hp') ∨ (o = .fin e env' hp' ∧ e ≠ .normal) := by
  unfold Out.thenN at h
  split at h
  · exact .inl ⟨_, _, rfl, h⟩
  · rename_i hne
    refine .inr ⟨h, fun he => ?_⟩
    subst he
    exact hne _ _ h

theorem unblock_fin {o : Out} {id : Nat} {e : AExit} {env' : Tr AV} {hp' : Hp} (h : o.unblock id = .fin e env' hp') :
    (o = .fin (.exit id) env' hp' ∧ e = .normal) ∨ (o = .fin e env' hp' ∧ e ≠ .exit id) := by
  unfold Out.unblock at h
  split at h
  · rename_i id' env1 hp1
    split at h
    · rename_i hb
      have := Nat.eq_of_beq_eq_true hb
      subst this
      cases h
      exact .inl ⟨rfl, rfl⟩
    · rename_i hb
      cases h
      refine .inr ⟨rfl, fun he => ?_⟩
      cases he
      simp [Nat.beq_refl] at hb
  · rename_i hne
    refine .inr ⟨h, fun he => ?_⟩
    subst he
    exact hne _ _ _ h

/-- On from there. -/
theorem pass_plain {m : Machine} {b : Frame} {x : Item} {k : List Item} {cs : List Frame} {e : AExit} {a' : Act} {w' : World} (hx : x.plain = true) (he : e ≠ .normal)
    (h : Arrives T.P m b (x :: k) cs e.ex a' w') : Arrives T.P m b k cs e.ex a' w' := by
  refine .pass hx (fun _ _ => .inl ?_) h
  cases e <;> simp [AExit.ex] at he ⊢

/-- A machine that runs regions in any order as the model does. -/
def Draws (T : Tab) (rec : Rec) : Prop :=
  ∀ (ops : Array Oper) (slots : List (Nat × Nat)) (nt : Nat) (env : Tr AV) (hp : Hp) (e : AExit) (env' : Tr AV) (hp' : Hp), planOf T ops.toList = some slots → runSlots rec T nt ops.toList slots env hp [hp.h] = .fin e env' hp' →
    ∀ (base : Nat → Prop) (ρ : Inj) (a : Act) (w : World), SRel base nt ρ env hp a w → wpAny T.P .any ops (Post base nt hp.next ρ a w (.fin e env' hp')) ops.size (Array.replicate ops.size false) a w

theorem SRel.drew (hS : SRel base nt ρ env hp a w) : SRel base nt ρ env hp a { w with drawn := w.drawn + 1 } := ⟨hS.heap.of_heap rfl, hS.env⟩

theorem code_good (hT : TabOk T) (hg : Good T rec) (hd : Draws T rec) (c : Code) (env' : Tr AV) (hp' : Hp) (e : AExit) (h : runCode c rec T nt env hp = .fin e env' hp') (hS : SRel base nt ρ env hp a w)
    (it : Item) (hs : Starts c it) (b : Frame) (k : List Item) (cs : List Frame) :
    ∃ a' w', Post base nt hp.next ρ a w (.fin e env' hp') e.ex a' w' ∧ Arrives T.P (lone (b.at a (it :: k)) cs w) b k cs e.ex a' w' := by
  have here : ∀ {e : AExit} {env' : Tr AV} {hp' : Hp}, Out.fin e env hp = .fin e env' hp' → Post base nt hp.next ρ a w (.fin e env' hp') e.ex a w := by
    intro e env' hp' h
    cases h
    exact ⟨rfl, ρ, To.refl hS⟩
  cases c with
  | skip =>
    cases hs
    have h' : Out.fin .normal env hp = .fin e env' hp' := h
    cases h'
    exact ⟨a, w, here rfl, .one step_skip⟩
  | label l =>
    cases hs
    have h' : Out.fin .normal env hp = .fin e env' hp' := h
    cases h'
    exact ⟨a, w, here rfl, .one step_label⟩
  | exit id =>
    cases hs
    have h' : Out.fin (.exit id) env hp = .fin e env' hp' := h
    cases h'
    exact ⟨a, w, here rfl, fun k' hk => .one (step_exit hk)⟩
  | goto l =>
    cases hs
    have h' : Out.fin (.goto l) env hp = .fin e env' hp' := h
    cases h'
    exact ⟨a, w, here rfl, fun k' hk => .one (step_goto hk)⟩
  | ret =>
    cases hs
    have h' : Out.fin .ret env hp = .fin e env' hp' := h
    cases h'
    exact ⟨a, w, here rfl, _, .one step_ret⟩
  | seq x y =>
    cases hs
    have h' : (rec (.code x nt env) hp).thenN (fun env hp => rec (.code y nt env) hp) = .fin e env' hp' := h
    rcases thenN_fin h' with ⟨env1, hp1, h1, h2⟩ | ⟨h1, hne⟩
    · obtain ⟨a1, w1, ⟨_, ρ1, t1⟩, r1⟩ := hg.code x nt env hp .normal env1 hp1 h1 base ρ a w hS (.code x) (.code x) b (.code y :: k) cs
      obtain ⟨a2, w2, ⟨_, ρ2, t2⟩, r2⟩ := hg.code y nt env1 hp1 e env' hp' h2 base ρ1 a1 w1 t1.st (.code y) (.code y) b k cs
      exact ⟨a2, w2, ⟨rfl, ρ2, t1.trans t2⟩, .of_steps (.head step_seq r1) r2⟩
    · obtain ⟨a1, w1, p1, r1⟩ := hg.code x nt env hp e env' hp' h1 base ρ a w hS (.code x) (.code x) b (.code y :: k) cs
      exact ⟨a1, w1, p1, .of_steps (.one step_seq) (pass_plain (x := .code y) rfl hne r1)⟩
  | cond c x y =>
    cases hs
    have h' : runCond c x y rec T nt env hp = .fin e env' hp' := h
    unfold runCond at h'
    split at h'
    · rename_i hc
      have ec := raw_rel (eval_all hS.env _ _ hc)
      obtain ⟨a1, w1, p1, r1⟩ := hg.code x nt env hp e env' hp' h' base ρ a w hS (.code x) (.code x) b k cs
      exact ⟨a1, w1, p1, .of_steps (.one (step_cond ec)) r1⟩
    · rename_i hc
      have ec := raw_rel (eval_all hS.env _ _ hc)
      obtain ⟨a1, w1, p1, r1⟩ := hg.code y nt env hp e env' hp' h' base ρ a w hS (.code y) (.code y) b k cs
      exact ⟨a1, w1, p1, .of_steps (.one (step_cond ec)) r1⟩
    · cases h'
  | block id x =>
    cases hs
    have h' : (rec (.code x nt env) hp).unblock id = .fin e env' hp' := h
    rcases unblock_fin h' with ⟨h1, rfl⟩ | ⟨h1, hne⟩
    · obtain ⟨a1, w1, ⟨_, p1⟩, r1⟩ := hg.code x nt env hp _ env' hp' h1 base ρ a w hS (.code x) (.code x) b (.inBlock id :: k) cs
      exact ⟨a1, w1, ⟨rfl, p1⟩, .head step_block (r1 k (by simp [exitTo]))⟩
    · obtain ⟨a1, w1, p1, r1⟩ := hg.code x nt env hp _ env' hp' h1 base ρ a w hS (.code x) (.code x) b (.inBlock id :: k) cs
      refine ⟨a1, w1, p1, ?_⟩
      cases e with
      | normal => exact .head step_block (Steps.trans r1 (.one step_inBlock))
      | exit id' =>
        refine fun k' hk => .head step_block (r1 k' ?_)
        have : (id == id') = false := by simp; exact fun h => hne (by rw [h])
        simp [exitTo, this, hk]
      | goto l => exact fun k' hk => .head step_block (r1 k' (by simp [gotoIn, hk]))
      | ret => exact .of_steps (e := .ret) (.one step_block) r1
  | loop x =>
    have h' : (rec (.code x nt env) hp).thenN (fun env hp => rec (.code (.loop x) nt env) hp) = .fin e env' hp' := h
    have hst : step T.P (lone (b.at a (it :: k)) cs w) = .next (lone (b.at a (.code x :: .inLoop x :: k)) cs w) := by
      cases hs
      · exact step_loop
      · exact step_inLoop
    rcases thenN_fin h' with ⟨env1, hp1, h1, h2⟩ | ⟨h1, hne⟩
    · obtain ⟨a1, w1, ⟨_, ρ1, t1⟩, r1⟩ := hg.code x nt env hp .normal env1 hp1 h1 base ρ a w hS (.code x) (.code x) b (.inLoop x :: k) cs
      obtain ⟨a2, w2, ⟨_, ρ2, t2⟩, r2⟩ := hg.code (.loop x) nt env1 hp1 e env' hp' h2 base ρ1 a1 w1 t1.st (.inLoop x) (.loop x) b k cs
      exact ⟨a2, w2, ⟨rfl, ρ2, t1.trans t2⟩, .of_steps (.head hst r1) r2⟩
    · obtain ⟨a1, w1, p1, r1⟩ := hg.code x nt env hp e env' hp' h1 base ρ a w hS (.code x) (.code x) b (.inLoop x :: k) cs
      exact ⟨a1, w1, p1, .of_steps (.one hst) (pass_plain (x := .inLoop x) rfl hne r1)⟩
  | scope c =>
    cases hs
    have h' : rec (.scope c c nt env) hp = .fin e env' hp' := h
    obtain ⟨a1, w1, p1, r1⟩ := hg.scope c c nt env hp e env' hp' h' base ρ a w hS b k cs
    exact ⟨a1, w1, p1, .of_steps (.one step_scope) r1⟩
  | region id ops draw =>
    cases hs
    have h' : runRegion ops.toList draw rec T nt env hp = .fin e env' hp' := h
    unfold runRegion at h'
    cases draw with
    | false =>
      dsimp only at h'
      have hw := wp_region (id := id) (by
        rw [List.range_eq_range']
        have := text_wp hT hg (ρ₀ := ρ) (a₀ := a) (w₀ := w) ops.toList 0 ρ env hp a w (by simp) h' (To.refl hS)
        simpa using this) b k cs
      obtain ⟨x, a1, w1, ⟨rfl, p1⟩, r1⟩ := hw
      exact ⟨a1, w1, ⟨rfl, p1⟩, r1⟩
    | true =>
      dsimp only at h'
      split at h'
      · rename_i slots hp1
        have hw := wp_region_any (id := id) hT.mixed (hd ops slots nt env hp e env' hp' hp1 h' base ρ a _ hS.drew) b k cs
        obtain ⟨x, a1, w1, ⟨rfl, ρ1, p1⟩, r1⟩ := hw
        exact ⟨a1, w1, ⟨rfl, ρ1, ⟨p1.ext, p1.next, p1.st, ⟨p1.fb.heap, p1.fb.size, p1.fb.rest⟩, p1.defers⟩⟩, r1⟩
      · cases h'
  | _ => cases h

theorem scope_good (hg : Good T rec) (c at_ : Code) (env' : Tr AV) (hp' : Hp) (e : AExit) (h : runScope c at_ nt env rec hp = .fin e env' hp') (hS : SRel base nt ρ env hp a w)
    (b : Frame) (k : List Item) (cs : List Frame) :
    ∃ a' w', Post base nt hp.next ρ a w (.fin e env' hp') e.ex a' w' ∧ Arrives T.P (lone (b.at a (.code at_ :: .inScope c :: k)) cs w) b k cs e.ex a' w' := by
  unfold runScope at h
  split at h
  · rename_i l env1 hp1 h1
    obtain ⟨a1, w1, ⟨_, ρ1, t1⟩, r1⟩ := hg.code at_ nt env hp _ env1 hp1 h1 base ρ a w hS (.code at_) (.code at_) b (.inScope c :: k) cs
    split at h
    · rename_i rest hf
      obtain ⟨a2, w2, ⟨_, ρ2, t2⟩, r2⟩ := hg.scope c rest nt env1 hp1 e env' hp' h base ρ1 a1 w1 t1.st b k cs
      exact ⟨a2, w2, ⟨rfl, ρ2, t1.trans t2⟩, .of_steps (r1 _ (by simp [gotoIn, hf])) r2⟩
    · rename_i hf
      cases h
      exact ⟨a1, w1, ⟨rfl, ρ1, t1⟩, fun k' hk => r1 k' (by simp [gotoIn, hf, hk])⟩
  · rename_i hne
    obtain ⟨a1, w1, p1, r1⟩ := hg.code at_ nt env hp e env' hp' h base ρ a w hS (.code at_) (.code at_) b (.inScope c :: k) cs
    refine ⟨a1, w1, p1, ?_⟩
    cases e with
    | normal => exact Steps.trans r1 (.one step_inScope)
    | exit id' => exact fun k' hk => r1 k' (by simp [exitTo, hk])
    | goto l => exact absurd h (hne l env' hp')
    | ret => exact r1

/-! ### Calls -/

theorem argsEnv_eq (args : List AV) (t : Tr AV) (i : Nat) (k : Tr AV → Out) : argsEnv args t i k = k (putCells t i args) := writeCells_eq args t i k

theorem args_env {f : Func} {args : List AV} {vargs : Array Value} (hr : VsRel ρ args vargs.toList) (hle : args.length ≤ f.ntmps) :
    ERel ρ (putCells .nil 0 args) f.ntmps (vargs ++ Array.replicate (f.ntmps - vargs.size) undef) := by
  have hlen := hr.length
  simp only [Array.length_toList] at hlen
  refine ⟨by simp; omega, fun t x hx => ?_⟩
  rw [get_putCells, Tr.get_nil] at hx
  by_cases h : 0 ≤ t ∧ t < 0 + args.length
  · rw [if_pos h] at hx
    simp only [Nat.sub_zero] at hx
    obtain ⟨v, hv, hrel⟩ := hr.get hx
    refine ⟨v, ?_, hrel⟩
    rw [toList_get] at hv
    rw [Array.getElem?_append_left]
    · exact hv
    · rw [hlen]; omega
  · rw [if_neg h] at hx; cases hx

theorem call_good (hT : TabOk T) (hg : Good T rec) (f : FuncId) (args : List AV) (hp' : Hp) (v : AV) (h : runCall f args rec T hp = .ret v hp') :
    (∃ fn c, T.fns.get f = some fn ∧ fn.body = some c) ∧
    ∀ (base : Nat → Prop) (ρ : Inj) (w : World) (vargs : Array Value), HRel ρ hp w base → VsRel ρ args vargs.toList → Calls T.P f vargs w (CallPost base hp.next ρ w v hp') := by
  unfold runCall at h
  split at h
  · cases h
  · rename_i fn hf
    split at h
    · cases h
    · rename_i c hb
      refine ⟨⟨fn, c, hf, hb⟩, fun base ρ w vargs hH hr => ?_⟩
      obtain ⟨hfn, _⟩ := hT.fn _ _ hf
      split at h
      · cases h
      · rename_i hle
        have hle' := Nat.le_of_ble_eq_true hle
        rw [argsEnv_eq] at h
        have hS : SRel base fn.ntmps ρ (putCells .nil 0 args) hp { tmps := vargs ++ Array.replicate (fn.ntmps - vargs.size) undef, defers := [] } w := ⟨hH, args_env hr hle'⟩
        refine calls_of_wp hfn hb fun b k cs => ?_
        split at h
        · rename_i env1 hp1 h1
          obtain ⟨a1, w1, ⟨_, ρ1, t1⟩, r1⟩ := hg.code c fn.ntmps _ hp .normal env1 hp1 h1 base ρ _ w hS (.code c) (.code c) b k cs
          obtain ⟨rfl, v', hv, hrel⟩ := leave_run hT t1.st h
          exact ⟨.normal, a1, w1, ⟨t1.defers, v', hv, v', ρ1, rfl, t1.ext, t1.next, t1.st.heap, hrel, t1.fb⟩, r1⟩
        · rename_i env1 hp1 h1
          obtain ⟨a1, w1, ⟨_, ρ1, t1⟩, r1⟩ := hg.code c fn.ntmps _ hp .ret env1 hp1 h1 base ρ _ w hS (.code c) (.code c) b k cs
          obtain ⟨rfl, v', hv, hrel⟩ := leave_run hT t1.st h
          exact ⟨.ret, a1, w1, ⟨t1.defers, v', hv, v', ρ1, rfl, t1.ext, t1.next, t1.st.heap, hrel, t1.fb⟩, r1⟩
        · cases h

theorem leave_fin {fn : Func} {e : AExit} {env' : Tr AV} {hp' : Hp} : leave T fn env hp ≠ .fin e env' hp' := by
  unfold leave
  split <;> simp

theorem runCall_fin {f : FuncId} {args : List AV} {e : AExit} {env' : Tr AV} {hp' : Hp} : runCall f args rec T hp ≠ .fin e env' hp' := by
  intro h
  unfold runCall at h
  split at h
  · cases h
  · split at h
    · cases h
    · split at h
      · cases h
      · rw [argsEnv_eq] at h
        split at h
        · exact leave_fin h
        · exact leave_fin h
        · cases h

/-! ### Names only grow -/

def MonoR (rec : Rec) : Prop := ∀ (t : Task) (hp : Hp), (∀ e env' hp', rec t hp = .fin e env' hp' → hp.next ≤ hp'.next) ∧ (∀ v hp', rec t hp = .ret v hp' → hp.next ≤ hp'.next)

def MonoO (N : Nat) (o : Out) : Prop := (∀ e env' hp', o = .fin e env' hp' → N ≤ hp'.next) ∧ (∀ v hp', o = .ret v hp' → N ≤ hp'.next)

theorem MonoO.bad (N : Nat) : MonoO N .bad := ⟨fun _ _ _ h => (by cases h), fun _ _ h => (by cases h)⟩
theorem MonoO.fin {N : Nat} {e : AExit} {env : Tr AV} {hp : Hp} (h : N ≤ hp.next) : MonoO N (.fin e env hp) := ⟨fun _ _ _ e => (by cases e; exact h), fun _ _ h => (by cases h)⟩
theorem MonoO.ret {N : Nat} {v : AV} {hp : Hp} (h : N ≤ hp.next) : MonoO N (.ret v hp) := ⟨fun _ _ _ h => (by cases h), fun _ _ e => (by cases e; exact h)⟩
theorem MonoO.le {N N' : Nat} {o : Out} (h : MonoO N' o) (hn : N ≤ N') : MonoO N o := ⟨fun _ _ _ e => Nat.le_trans hn (h.1 _ _ _ e), fun _ _ e => Nat.le_trans hn (h.2 _ _ e)⟩

theorem putDst_mono {N : Nat} {env : Tr AV} {dst : Option Tmp} {v : AV} {k : Tr AV → Out} (h : ∀ env, MonoO N (k env)) : MonoO N (putDst nt env dst v k) := by
  unfold putDst
  split
  · exact h _
  · split
    · rw [Tr.set_eq]; exact h _
    · exact .bad _

theorem stepText_mono {all : List Oper} {k : Tr AV → Hp → Out} (hr : MonoR rec) (hk : ∀ env hp, MonoO hp.next (k env hp)) : MonoO hp.next (stepText rec T nt all o env hp k) := by
  unfold stepText
  split
  · split
    · rename_i v hp' hv
      exact putDst_mono fun env => (hk env hp').le (opA_next hv)
    · rename_i f args hv
      split
      · rename_i v hp' hc
        exact putDst_mono fun env => (hk env hp').le ((hr _ _).2 _ _ hc)
      · exact .bad _
    · exact .bad _
  · exact putDst_mono fun env => hk env hp
  · exact .bad _

theorem runText_mono {all : List Oper} (hr : MonoR rec) : ∀ (l : List Oper) (env : Tr AV) (hp : Hp), MonoO hp.next (runText rec T nt all l env hp)
  | [], env, hp => .fin (Nat.le_refl _)
  | o :: l, env, hp => stepText_mono hr (runText_mono hr l)

theorem stepSlot_mono {all : List Oper} {s : Nat × Nat} {snaps : List (Tr AObj)} {k : Tr AV → Hp → List (Tr AObj) → Out} (hr : MonoR rec) (hk : ∀ env hp sn, MonoO hp.next (k env hp sn)) : MonoO hp.next (stepSlot rec T nt all s env hp snaps k) := by
  unfold stepSlot
  split
  · exact .bad _
  · split
    · split
      · rename_i v hp' hv
        exact putDst_mono fun env => (hk env hp' _).le (opA_next hv)
      · rename_i f args hv
        split
        · rename_i v hp' hc
          exact putDst_mono fun env => (hk env hp' _).le ((hr _ _).2 _ _ hc)
        · exact .bad _
      · exact .bad _
    · split
      · rename_i v hp' hv
        split
        · exact putDst_mono fun env => (hk env hp' _).le (opA_next hv)
        · split
          · exact putDst_mono fun env => (hk env hp' _).le (opA_next hv)
          · exact .bad _
      · exact .bad _
    · exact putDst_mono fun env => hk env hp _
    · exact putDst_mono fun env => hk env hp _
    · exact .bad _

theorem runSlots_mono {all : List Oper} (hr : MonoR rec) : ∀ (l : List (Nat × Nat)) (env : Tr AV) (hp : Hp) (sn : List (Tr AObj)), MonoO hp.next (runSlots rec T nt all l env hp sn)
  | [], env, hp, _ => .fin (Nat.le_refl _)
  | s :: l, env, hp, sn => stepSlot_mono hr (runSlots_mono hr l)

theorem MonoO.then {N : Nat} {o : Out} {k : Tr AV → Hp → Out} (h : MonoO N o) (hk : ∀ env hp, MonoO hp.next (k env hp)) : MonoO N (o.thenN k) := by
  unfold Out.thenN
  split
  · exact (hk _ _).le (h.1 _ _ _ rfl)
  · exact h

theorem MonoO.unblock {N : Nat} {o : Out} {id : Nat} (h : MonoO N o) : MonoO N (o.unblock id) := by
  unfold Out.unblock
  split
  · split
    · exact .fin (h.1 _ _ _ rfl)
    · exact h
  · exact h

theorem runCode_mono {c : Code} (hr : MonoR rec) : MonoO hp.next (runCode c rec T nt env hp) := by
  cases c with
  | seq x y => exact MonoO.then (hr _ _) fun env hp => hr _ _
  | cond c x y =>
    show MonoO hp.next (runCond c x y rec T nt env hp)
    unfold runCond
    split
    · exact hr _ _
    · exact hr _ _
    · exact .bad _
  | block id x => exact MonoO.unblock (hr _ _)
  | loop x => exact MonoO.then (hr _ _) fun env hp => hr _ _
  | scope c => exact hr _ _
  | region id ops draw =>
    show MonoO hp.next (runRegion ops.toList draw rec T nt env hp)
    unfold runRegion
    split
    · exact runText_mono hr _ _ _
    · split
      · exact runSlots_mono hr _ _ _ _
      · exact .bad _
  | _ => first | exact .bad _ | exact .fin (Nat.le_refl _)

theorem leave_mono {fn : Func} : MonoO hp.next (leave T fn env hp) := by
  unfold leave
  split
  · exact .ret (Nat.le_refl _)
  · exact .bad _

theorem runF_mono (hr : MonoR rec) (t : Task) (hp : Hp) : MonoO hp.next (runF T rec t hp) := by
  cases t with
  | code c nt env => exact runCode_mono hr
  | scope c at_ nt env =>
    show MonoO hp.next (runScope c at_ nt env rec hp)
    unfold runScope
    split
    · rename_i l env1 hp1 h1
      split
      · exact MonoO.le (hr _ _) ((hr _ _).1 _ _ _ h1)
      · exact .fin ((hr _ _).1 _ _ _ h1)
    · exact hr _ _
  | call f args =>
    show MonoO hp.next (runCall f args rec T hp)
    unfold runCall
    split
    · exact .bad _
    · split
      · exact .bad _
      · split
        · exact .bad _
        · rw [argsEnv_eq]
          split
          · rename_i env1 hp1 h1
            exact leave_mono.le ((hr _ _).1 _ _ _ h1)
          · rename_i env1 hp1 h1
            exact leave_mono.le ((hr _ _).1 _ _ _ h1)
          · exact .bad _

/-- One more step of fuel. -/
theorem good_step (hT : TabOk T) (hg : Good T rec) (hd : Draws T rec) : Good T (runF T rec) where
  code := fun c nt env hp e env' hp' h base ρ a w hS it hs b k cs => code_good hT hg hd c env' hp' e h hS it hs b k cs
  scope := fun c at_ nt env hp e env' hp' h base ρ a w hS b k cs => scope_good hg c at_ env' hp' e h hS b k cs
  call := fun f args hp v hp' h => call_good hT hg f args hp' v h
  mono := fun t hp => runF_mono hg.mono t hp
  nofin := fun f args hp e env' hp' h => runCall_fin h

theorem good_none : Good T (fun _ _ => .bad) where
  code := fun c nt env hp e env' hp' h => by cases h
  scope := fun c at_ nt env hp e env' hp' h => by cases h
  call := fun f args hp v hp' h => by cases h
  mono := fun t hp => ⟨fun _ _ _ h => (by cases h), fun _ _ h => (by cases h)⟩
  nofin := fun f args hp e env' hp' h => by cases h

/-- Every run. -/
theorem run_good (hT : TabOk T) (hd : ∀ rec, Good T rec → Draws T rec) : ∀ n, Good T (run T n)
  | 0 => good_none
  | n + 1 => good_step hT (run_good hT hd n) (hd _ (run_good hT hd n))

end
end Go.Ab
