/-
  EACH OPERATION OF THE ABSTRACT MACHINE IS ONE OF THE MODEL's (binary operations).
-/
import Derived.Test.YtmnepjoaggdhpabGreatAbS
import Derived.Laws.Cover3
set_option linter.unusedVariables false
namespace Go.Ab

theorem intBin_run {P : Program} {β : Type} {op : BinOp} {k k' : IntKind} {a b : Int} {f : Value → Option β} {r : β} (h : intBin none op k a k' b f = some r) (t : TypeId) (w : World) :
    ∃ x, f x = some r ∧ x.oneCell' = true ∧ (Go.binOp op t (.int k a) (.int k' b)).run P w = .ok x w := by
  by_cases hk : k = k'
  · subst hk
    have hkk : kindEq k k = true := by rw [kindEq_iff]; simp
    cases op <;> simp only [intBin, hkk, retI, retB, forceI_eq, forceB_eq] at h <;> first | (cases h; done) | skip
    case add => exact ⟨_, h, rfl, by rw [wrapF_eq]; simp [Go.binOp, Op.intArith]⟩
    case sub => exact ⟨_, h, rfl, by rw [wrapF_eq]; simp [Go.binOp, Op.intArith]; try rfl⟩
    case mul => exact ⟨_, h, rfl, by rw [wrapF_eq]; simp [Go.binOp, Op.intArith]⟩
    case quo =>
      by_cases hb : b = 0
      · have : intEq b 0 = true := by rw [intEq_eq]; simp [hb]
        rw [this] at h; cases h
      · have : intEq b 0 = false := by rw [intEq_eq]; simp [hb]
        rw [this] at h
        exact ⟨_, h, rfl, by rw [wrapF_eq]; simp [Go.binOp, Op.intDiv, hb]⟩
    case rem =>
      by_cases hb : b = 0
      · have : intEq b 0 = true := by rw [intEq_eq]; simp [hb]
        rw [this] at h; cases h
      · have : intEq b 0 = false := by rw [intEq_eq]; simp [hb]
        rw [this] at h
        exact ⟨_, h, rfl, by simp [Go.binOp, Op.intDiv, hb]⟩
    case eql => exact ⟨_, h, rfl, by simp [Go.binOp, Op.intCmp, intEq_eq]; rfl⟩
    case neq => exact ⟨_, h, rfl, by simp [Go.binOp, Op.intCmp, intEq_eq, bne]; rfl⟩
    case lss => exact ⟨_, h, rfl, by simp [Go.binOp, Op.intCmp, intLt_eq]⟩
    case leq => exact ⟨_, h, rfl, by simp [Go.binOp, Op.intCmp, intLt_eq]; rw [Bool.eq_iff_iff]; simp⟩
    case gtr => exact ⟨_, h, rfl, by simp [Go.binOp, Op.intCmp, intLt_eq]⟩
    case geq => exact ⟨_, h, rfl, by simp [Go.binOp, Op.intCmp, intLt_eq]; rw [Bool.eq_iff_iff]; simp⟩
  · have hkk : kindEq k k' = false := by rw [kindEq_iff]; simp [hk]
    cases op <;> simp only [intBin, hkk] at h <;> cases h

theorem strBin_run {P : Program} {β : Type} {op : BinOp} {a b : ByteArray} {f : Value → Option β} {r : β} (h : strBin none op a b f = some r) (t : TypeId) (w : World) :
    ∃ x, f x = some r ∧ x.oneCell' = true ∧ (Go.binOp op t (.string a) (.string b)).run P w = .ok x w := by
  cases op <;> simp only [strBin, retB, forceB_eq] at h <;> first | (cases h; done) | skip
  case add =>
    split at h
    · rename_i hlt
      rw [blt_iff] at hlt
      have hlt' := of_decide_eq_true hlt
      refine ⟨_, h, rfl, ?_⟩
      have e : (⟨(a.data.toList ++ b.data.toList).toArray⟩ : ByteArray) = a ++ b := by
        apply ByteArray.ext
        apply Array.toList_inj.1
        simp
      have hs : ¬ (((a.size + b.size : Nat) : Int) > IntKind.i64.max) := by
        have : IntKind.i64.max = 9223372036854775807 := rfl
        rw [this]
        have h1 : a.size = a.data.toList.length := by show a.data.size = _; exact Array.length_toList.symm
        have h2 : b.size = b.data.toList.length := by show b.data.size = _; exact Array.length_toList.symm
        omega
      rw [e]
      simp only [Go.binOp, Op.stringOp, if_neg hs, Sem.run_pure]
    · cases h
  case eql => exact ⟨_, h, rfl, by simp [Go.binOp, Op.stringOp, strEq_eq]⟩
  case neq => exact ⟨_, h, rfl, by simp [Go.binOp, Op.stringOp, strEq_eq]⟩

section
variable {T : Tab} {base : Nat → Prop} {ρ : Inj} {env : Tr AV} {hp hp' : Hp} {w : World} {ev : Operand → Value} {o : Oper} {v : AV}

theorem eqGuard_plain {P : Program} {op : BinOp} {t : TypeId} {x y : Operand} {a b : Value} {w : World} (h : a.oneCell' = true) (hn : a ≠ .nilIface) :
    (eqGuard op t x y a b).run P w = .ok () w := by
  unfold eqGuard
  cases op <;> cases a <;> first | rfl | (simp [Value.oneCell'] at h; done) | (exact absurd rfl hn)

theorem ofExec {op : BinOp} {t yt : TypeId} {x y : Operand} (ho : o.op = .binOp op t x y yt) {r : Value} (hg : (eqGuard op t x y (ev x) (ev y)).run T.P w = .ok () w)
    (h : (Go.binOp op t (ev x) (ev y)).run T.P w = .ok r w) : (execOp ev o).run T.P w = .ok (.value r) w := by
  simp [execOp, ho, hg, h]

theorem raw_rel {ρ : Inj} {x v : Value} (h : VRel ρ (.raw x) v) : v = x := by simp only [VRel] at h; exact h.1
theorem raw_mk {ρ : Inj} {x : Value} (h : x.oneCell' = true) : VRel ρ (.raw x) x := (⟨rfl, h⟩ : x = x ∧ x.oneCell' = true)

theorem run_equal_of {P : Program} {op : BinOp} {t : TypeId} {a b : Value} {r : Bool} {w : World} (hop : op = .eql ∨ op = .neq) (h : (Op.equal t a b).run P w = .ok r w)
    (ha : ∀ k n, a ≠ .int k n) (hf : ∀ k n, a ≠ .float k n) (hc : ∀ k x y, a ≠ .complex k x y) (hs : ∀ s, a ≠ .string s) :
    (Go.binOp op t a b).run P w = .ok (.bool (if op = .eql then r else !r)) w := by
  rcases hop with rfl | rfl
  · have : Go.binOp .eql t a b = (do pure (.bool (← Op.equal t a b))) := by
      unfold Go.binOp
      split <;> simp_all
    rw [this]; simp [h]
  · have : Go.binOp .neq t a b = (do pure (.bool (!(← Op.equal t a b)))) := by
      unfold Go.binOp
      split <;> simp_all
    rw [this]; simp [h]

theorem equal_succ (t : TypeId) (a b : Value) : Op.equal t a b = Op.equalIn (9999 + 1) t a b := rfl

theorem equal_bool {P : Program} {t : TypeId} {x : TyI} (hx : TyOk P t x) (hu : x.und = .bool) (a b : Bool) (w : World) : (Op.equal t (.bool a) (.bool b)).run P w = .ok (a == b) w := by
  have := hx.run_und w
  rw [hu] at this
  rw [equal_succ, Op.equalIn]
  simp only [Sem.run_bind, this, Result.andThen_ok, Sem.run_pure]


theorem bin_int {op : BinOp} {t yt : TypeId} {x y : Operand} {k k' : IntKind} {a b : Int} (ho : o.op = .binOp op t x y yt) (hx : VRel ρ (.raw (.int k a)) (ev x)) (hy : VRel ρ (.raw (.int k' b)) (ev y))
    (hH : HRel ρ hp w base) (h : (intBin none op k a k' b fun v => some (ARes.val (.raw v) hp)) = some (ARes.val v hp')) : ReadsTo T base ρ hp w (execOp ev o) v hp' := by
  obtain ⟨r, hr, hc, hrun⟩ := intBin_run (P := T.P) h t w
  simp at hr; obtain ⟨rfl, rfl⟩ := hr
  have ex := raw_rel hx; have ey := raw_rel hy
  exact .pure hH (ofExec ho (eqGuard_plain (by rw [ex]; rfl) (by rw [ex]; simp)) (by rw [ex, ey]; exact hrun)) (raw_mk hc)

theorem bin_str {op : BinOp} {t yt : TypeId} {x y : Operand} {a b : ByteArray} (ho : o.op = .binOp op t x y yt) (hx : VRel ρ (.raw (.string a)) (ev x)) (hy : VRel ρ (.raw (.string b)) (ev y))
    (hH : HRel ρ hp w base) (h : (strBin none op a b fun v => some (ARes.val (.raw v) hp)) = some (ARes.val v hp')) : ReadsTo T base ρ hp w (execOp ev o) v hp' := by
  obtain ⟨r, hr, hc, hrun⟩ := strBin_run (P := T.P) h t w
  simp at hr; obtain ⟨rfl, rfl⟩ := hr
  have ex := raw_rel hx; have ey := raw_rel hy
  exact .pure hH (ofExec ho (eqGuard_plain (by rw [ex]; rfl) (by rw [ex]; simp)) (by rw [ex, ey]; exact hrun)) (raw_mk hc)

theorem bin_complex {op : BinOp} {t yt : TypeId} {x y : Operand} {a b c d : Nat} (ho : o.op = .binOp op t x y yt) (hx : VRel ρ (.raw (.complex .f64 a b)) (ev x)) (hy : VRel ρ (.raw (.complex .f64 c d)) (ev y))
    (hH : HRel ρ hp w base) {r : Bool} (hop : (op = .eql ∧ r = ((FloatKind.f64.format.order a c == some .eq) && (FloatKind.f64.format.order b d == some .eq))) ∨ (op = .neq ∧ r = !((FloatKind.f64.format.order a c == some .eq) && (FloatKind.f64.format.order b d == some .eq)))) :
    ReadsTo T base ρ hp w (execOp ev o) (.raw (.bool r)) hp := by
  have ex := raw_rel hx; have ey := raw_rel hy
  refine .pure hH (ofExec ho (eqGuard_plain (by rw [ex]; rfl) (by rw [ex]; simp)) ?_) (raw_mk rfl)
  rw [ex, ey]
  rcases hop with ⟨rfl, rfl⟩ | ⟨rfl, rfl⟩
  · exact run_eql_complex ..
  · exact run_neq_complex ..

/-- By the model's test on equality. -/
theorem bin_of_equal {op : BinOp} {t yt : TypeId} {x y : Operand} (ho : o.op = .binOp op t x y yt) (hH : HRel ρ hp w base) {r : Bool} (hop : op = .eql ∨ op = .neq)
    (hg : (eqGuard op t x y (ev x) (ev y)).run T.P w = .ok () w) (he : (Op.equal t (ev x) (ev y)).run T.P w = .ok r w)
    (ha : ∀ k n, ev x ≠ .int k n) (hf : ∀ k n, ev x ≠ .float k n) (hc : ∀ k a b, ev x ≠ .complex k a b) (hs : ∀ s, ev x ≠ .string s) :
    ReadsTo T base ρ hp w (execOp ev o) (.raw (.bool (if op = .eql then r else !r))) hp :=
  .pure hH (ofExec ho hg (run_equal_of hop he ha hf hc hs)) (raw_mk rfl)

theorem heap_cells {ρ : Inj} {hp : Hp} {w : World} {base : Nat → Prop} (hH : HRel ρ hp w base) {i : Id} {n : Nat} {st : Kd} {t : Tr AV} (h : hp.h.get i = some (.cells n st t)) :
    ∃ l c el fr, ρ i = some l ∧ base l.b ∧ w.heap[l.b]? = some (.cells c el fr) ∧ c.size = l.n ∧ l.o + n ≤ l.n ∧ (fr = (0, 0) ∨ (st = .str ∧ fr = (l.n, l.n + 1))) ∧
      ∀ k a, t.get k = some a → k < n ∧ ∃ v, c[l.o + k]? = some v ∧ VRel ρ a v ∧ v.oneCell' = true := by
  obtain ⟨l, hl, hb, c, el, fr, h1, h2, h3, h4, _, h5⟩ := hH.obj i _ h
  exact ⟨l, c, el, fr, hl, hb, h1, h2, h3, h4, h5⟩

/-- The same, with what is known of the block. -/
theorem heap_kind {ρ : Inj} {hp : Hp} {w : World} {base : Nat → Prop} (hH : HRel ρ hp w base) {i : Id} {n : Nat} {st : Kd} {t : Tr AV} (h : hp.h.get i = some (.cells n st t)) :
    ∃ l c el fr, ρ i = some l ∧ base l.b ∧ w.heap[l.b]? = some (.cells c el fr) ∧ c.size = l.n ∧ l.o + n ≤ l.n ∧ (fr = (0, 0) ∨ (st = .str ∧ fr = (l.n, l.n + 1))) ∧ st.ok el l n ∧
      ∀ k a, t.get k = some a → k < n ∧ ∃ v, c[l.o + k]? = some v ∧ VRel ρ a v ∧ v.oneCell' = true := by
  obtain ⟨l, hl, hb, c, el, fr, h1, h2, h3, h4, h6, h5⟩ := hH.obj i _ h
  exact ⟨l, c, el, fr, hl, hb, h1, h2, h3, h4, h6, h5⟩

theorem plainBlock_some {hp : Hp} {i : Id} (h : plainBlock hp i = true) : ∃ n st t, hp.h.get i = some (.cells n st t) ∧ st ≠ .str := by
  unfold plainBlock at h
  split at h
  · cases h
  · rename_i n st t hne hg
    exact ⟨n, st, t, hg, fun e => hne e⟩
  · cases h

theorem sameAddr_run {P : Program} {a b : Addr} {w : World} {c c' : Array Value} {e e' : TypeId} (ha : w.heap[a.block]? = some (.cells c e (0, 0))) (hb : w.heap[b.block]? = some (.cells c' e' (0, 0)))
    (hs : a.spot = none) (hs' : b.spot = none) : (sameAddr a b).run P w = .ok (a == b) w := by
  by_cases h : a.block = b.block
  · unfold sameAddr
    simp [h]
  · have hab : (a == b) = false := by
      rw [beq_eq_false_iff_ne]; intro e; exact h (by rw [e])
    have sa : w.shape? a.block = some (e, c.size) := by simp [World.shape?, ha]
    have sb : w.shape? b.block = some (e', c'.size) := by simp [World.shape?, hb]
    have fa : ∀ n, w.frozen? { block := a.block, off := n } = false := fun n => by simp [World.frozen?, ha]
    have fb : ∀ n, w.frozen? { block := b.block, off := n } = false := fun n => by simp [World.frozen?, hb]
    have fa' : w.frozen? a = false := by simp [World.frozen?, ha]
    have fb' : w.frozen? b = false := by simp [World.frozen?, hb]
    rw [hab]
    have hst : ∀ (x : Addr) (c : Array Value) (e : TypeId), w.shape? x.block = some (e, c.size) → w.frozen? x = false → (∀ n, w.frozen? { block := x.block, off := n } = false) → (stringish x).run P w = .ok false w := by
      intro x c e h1 h2 h3
      simp [stringish, h1, h2, h3]
    have hmb : (mayBeOne a b).run P w = .ok false w := by
      simp [mayBeOne, hst a c e sa fa' fa, hst b c' e' sb fb' fb]
    have nv : ∀ (x : Addr) (c : Array Value) (e : TypeId), w.shape? x.block = some (e, c.size) → (noView x).run P w = .ok () w := by
      intro x c e h1
      simp [noView, viewAt, h1]
    unfold sameAddr
    simp [h, fa', fb', nv a c e sa, nv b c' e' sb, hmb]


theorem ptr_inj {ρ : Inj} {hp : Hp} {w : World} {base : Nat → Prop} (hH : HRel ρ hp w base) {i j : Id} {a b : Nat} {va vb : Value} (hx : VRel ρ (.ptr i a) va) (hy : VRel ρ (.ptr j b) vb)
    (hi : plainBlock hp i = true) (hj : plainBlock hp j = true) : ∃ x y c c' e e', va = .pointer (some x) ∧ vb = .pointer (some y) ∧ x.spot = none ∧ y.spot = none ∧
      w.heap[x.block]? = some (.cells c e (0, 0)) ∧ w.heap[y.block]? = some (.cells c' e' (0, 0)) ∧ (x == y) = (Nat.beq i j && Nat.beq a b) := by
  obtain ⟨n, st, t, hgi, hst⟩ := plainBlock_some hi
  obtain ⟨n', st', t', hgj, hst'⟩ := plainBlock_some hj
  obtain ⟨l, c, el, fr, hl, _, h1, h2, h3, h4, h5⟩ := heap_cells hH hgi
  obtain ⟨l', c', el', fr', hl', _, h1', h2', h3', h4', h5'⟩ := heap_cells hH hgj
  simp only [VRel] at hx hy
  obtain ⟨m, hm, rfl⟩ := hx
  obtain ⟨m', hm', rfl⟩ := hy
  rw [hl] at hm; cases hm
  rw [hl'] at hm'; cases hm'
  have e1 : fr = (0, 0) := by rcases h4 with h | ⟨h, _⟩; exact h; exact absurd h hst
  have e2 : fr' = (0, 0) := by rcases h4' with h | ⟨h, _⟩; exact h; exact absurd h hst'
  subst e1; subst e2
  refine ⟨_, _, c, c', el, el', rfl, rfl, rfl, rfl, h1, h1', ?_⟩
  by_cases e : i = j
  · subst e
    rw [hl] at hl'; cases hl'
    rw [Bool.eq_iff_iff]
    simp [Nat.beq_refl, Nat.beq_eq]
  · have hne : l.b ≠ l'.b := fun hb => e (hH.inj i j _ _ _ _ hgi hgj hl hl' hb)
    have : Nat.beq i j = false := by
      rw [Bool.eq_false_iff]; intro h; exact e (Nat.eq_of_beq_eq_true h)
    rw [this]
    simp [hne]

theorem bin_ref {op : BinOp} {t yt : TypeId} {x y : Operand} {a b : AV} {ti : TyI} {r : Bool} (hT : TabOk T) (hti : T.tys.get t = some ti) (ho : o.op = .binOp op t x y yt) (hx : VRel ρ a (ev x)) (hy : VRel ρ b (ev y))
    (hH : HRel ρ hp w base) (hop : op = .eql ∨ op = .neq) (h : refEq hp T ti.und a b = some r) : ReadsTo T base ρ hp w (execOp ev o) (.raw (.bool (if op = .eql then r else !r))) hp := by
  have hu := (hT.ty t ti hti).run_und w
  have key : ∀ (d : TypeDesc), ti.und = d → ((underlying t).run T.P w = .ok d w) := fun d e => by rw [← e]; exact hu
  unfold refEq at h
  split at h
  · rename_i e hund
    simp at h; subst h
    have e1 := raw_rel hx; have e2 := raw_rel hy
    refine bin_of_equal ho hH hop (eqGuard_plain (by rw [e1]; rfl) (by rw [e1]; simp)) ?_ (by rw [e1]; simp) (by rw [e1]; simp) (by rw [e1]; simp) (by rw [e1]; simp)
    rw [e1, e2, equal_succ, Op.equalIn]
    simp [key _ hund]
  · rename_i e i off hund
    simp at h; subst h
    have e1 := raw_rel hx
    have hy' := hy; simp only [VRel] at hy'; obtain ⟨l, _, e2⟩ := hy'
    refine bin_of_equal ho hH hop (eqGuard_plain (by rw [e1]; rfl) (by rw [e1]; simp)) ?_ (by rw [e1]; simp) (by rw [e1]; simp) (by rw [e1]; simp) (by rw [e1]; simp)
    rw [e1, e2, equal_succ, Op.equalIn]
    simp [key _ hund]
  · rename_i e i off hund
    simp at h; subst h
    have e1 := raw_rel hy
    have hy' := hx; simp only [VRel] at hy'; obtain ⟨l, _, e2⟩ := hy'
    refine bin_of_equal ho hH hop (eqGuard_plain (by rw [e2]; rfl) (by rw [e2]; simp)) ?_ (by rw [e2]; simp) (by rw [e2]; simp) (by rw [e2]; simp) (by rw [e2]; simp)
    rw [e1, e2, equal_succ, Op.equalIn]
    simp [key _ hund]
  · rename_i e i a j b hund
    split at h
    · rename_i te hi hj hte
      split at h
      · cases h
      · rename_i hz
        simp only [Option.some.injEq] at h; subst h
        obtain ⟨p, q, c, c', el, el', e1, e2, hs1, hs2, hc1, hc2, heq⟩ := ptr_inj hH hx hy hi hj
        refine bin_of_equal ho hH hop (eqGuard_plain (by rw [e1]; rfl) (by rw [e1]; simp)) ?_ (by rw [e1]; simp) (by rw [e1]; simp) (by rw [e1]; simp) (by rw [e1]; simp)
        rw [e1, e2, equal_succ, Op.equalIn]
        have hsz := (hT.ty e te hte).run_size w
        have hne : te.size ≠ 0 := by
          intro h0; rw [h0] at hz; cases hz
        simp [key _ hund, hsz, hne, sameAddr_run hc1 hc2 hs1 hs2, heq]
    · cases h
  · rename_i e hund
    simp at h; subst h
    have e1 := raw_rel hx; have e2 := raw_rel hy
    refine bin_of_equal ho hH hop (eqGuard_plain (by rw [e1]; rfl) (by rw [e1]; simp)) ?_ (by rw [e1]; simp) (by rw [e1]; simp) (by rw [e1]; simp) (by rw [e1]; simp)
    rw [e1, e2, equal_succ, Op.equalIn]
    simp [key _ hund]
  · rename_i e i off len lo ex es hund
    simp at h; subst h
    have e1 := raw_rel hy
    have hy' := hx; simp only [VRel] at hy'; obtain ⟨l, cap, _, e2, _⟩ := hy'
    refine bin_of_equal ho hH hop (eqGuard_plain (by rw [e2]; rfl) (by rw [e2]; simp)) ?_ (by rw [e2]; simp) (by rw [e2]; simp) (by rw [e2]; simp) (by rw [e2]; simp)
    rw [e1, e2, equal_succ, Op.equalIn]
    simp [key _ hund]
  · rename_i e ex hund
    simp at h; subst h
    have e1 := raw_rel hy
    have hy' := hx; simp only [VRel] at hy'; obtain ⟨l, cap, e2, _⟩ := hy'
    refine bin_of_equal ho hH hop (eqGuard_plain (by rw [e2]; rfl) (by rw [e2]; simp)) ?_ (by rw [e2]; simp) (by rw [e2]; simp) (by rw [e2]; simp) (by rw [e2]; simp)
    rw [e1, e2, equal_succ, Op.equalIn]
    simp [key _ hund]
  · rename_i p q vr f a b hund
    simp at h; subst h
    have e1 := raw_rel hx
    have hy' := hy; simp only [VRel] at hy'; obtain ⟨a', b', e2, _⟩ := hy'
    refine bin_of_equal ho hH hop (eqGuard_plain (by rw [e1]; rfl) (by rw [e1]; simp)) ?_ (by rw [e1]; simp) (by rw [e1]; simp) (by rw [e1]; simp) (by rw [e1]; simp)
    rw [e1, e2, equal_succ, Op.equalIn]
    simp [key _ hund]
  · rename_i p q vr f a b hund
    simp at h; subst h
    have e1 := raw_rel hy
    have hy' := hx; simp only [VRel] at hy'; obtain ⟨a', b', e2, _⟩ := hy'
    refine bin_of_equal ho hH hop (eqGuard_plain (by rw [e2]; rfl) (by rw [e2]; simp)) ?_ (by rw [e2]; simp) (by rw [e2]; simp) (by rw [e2]; simp) (by rw [e2]; simp)
    rw [e1, e2, equal_succ, Op.equalIn]
    simp [key _ hund]
  · rename_i p q vr hund
    simp at h; subst h
    have e1 := raw_rel hx; have e2 := raw_rel hy
    refine bin_of_equal ho hH hop (eqGuard_plain (by rw [e1]; rfl) (by rw [e1]; simp)) ?_ (by rw [e1]; simp) (by rw [e1]; simp) (by rw [e1]; simp) (by rw [e1]; simp)
    rw [e1, e2, equal_succ, Op.equalIn]
    simp [key _ hund]
  · rename_i kt et i hund
    simp at h; subst h
    have e1 := raw_rel hx
    have hy' := hy; simp only [VRel] at hy'; obtain ⟨l, _, e2⟩ := hy'
    refine bin_of_equal ho hH hop (eqGuard_plain (by rw [e1]; rfl) (by rw [e1]; simp)) ?_ (by rw [e1]; simp) (by rw [e1]; simp) (by rw [e1]; simp) (by rw [e1]; simp)
    rw [e1, e2, equal_succ, Op.equalIn]
    simp [key _ hund]
  · rename_i kt et i hund
    simp at h; subst h
    have e1 := raw_rel hy
    have hy' := hx; simp only [VRel] at hy'; obtain ⟨l, _, e2⟩ := hy'
    refine bin_of_equal ho hH hop (eqGuard_plain (by rw [e2]; rfl) (by rw [e2]; simp)) ?_ (by rw [e2]; simp) (by rw [e2]; simp) (by rw [e2]; simp) (by rw [e2]; simp)
    rw [e1, e2, equal_succ, Op.equalIn]
    simp [key _ hund]
  · rename_i kt et hund
    simp at h; subst h
    have e1 := raw_rel hx; have e2 := raw_rel hy
    refine bin_of_equal ho hH hop (eqGuard_plain (by rw [e1]; rfl) (by rw [e1]; simp)) ?_ (by rw [e1]; simp) (by rw [e1]; simp) (by rw [e1]; simp) (by rw [e1]; simp)
    rw [e1, e2, equal_succ, Op.equalIn]
    simp [key _ hund]
  · cases h

end
end Go.Ab
