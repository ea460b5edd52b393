/-
  AN ABSTRACT MACHINE FOR THE MODEL's CODE: values, memory, operations. Runs are deterministic: blocks are names, capacities that append draws stay open. What it answers is tied to the model in the texts behind this one.
-/
import GoSem.Machine.Frame
set_option linter.unusedVariables false
namespace Go.Ab

/-! ### A finite map over great numbers: a tree over the binary digits -/

inductive Bt (α : Type) where
  | nil
  | node (v : Option α) (l r : Bt α)

namespace Bt
variable {α β : Type}

/-- A way through such a tree. -/
inductive Pa where
  | z
  | l (p : Pa)
  | r (p : Pa)

noncomputable def pathF (f : Nat) : Nat → Pa :=
  Nat.rec (motive := fun _ => Nat → Pa) (fun _ => .z)
    (fun _ ih n => Nat.rec (motive := fun _ => Pa) .z (fun m _ => Bool.rec (motive := fun _ => Pa) (.r (ih (Nat.div m 2))) (.l (ih (Nat.div m 2))) (Nat.beq (Nat.mod m 2) 0)) n) f

/-- The way to a number's place. -/
noncomputable def path (n : Nat) : Pa := pathF (Nat.succ n) n

noncomputable def getP (p : Pa) : Bt α → Option α :=
  Pa.rec (motive := fun _ => Bt α → Option α) (fun t => Bt.rec (motive := fun _ => Option α) none (fun v _ _ _ _ => v) t)
    (fun _ ih t => Bt.rec (motive := fun _ => Option α) none (fun _ l _ _ _ => ih l) t)
    (fun _ ih t => Bt.rec (motive := fun _ => Option α) none (fun _ _ r _ _ => ih r) t) p

noncomputable def get (t : Bt α) (n : Nat) : Option α := getP (path n) t

noncomputable def setP (x : α) (p : Pa) : Bt α → (Bt α → β) → β :=
  Pa.rec (motive := fun _ => Bt α → (Bt α → β) → β)
    (fun t k => Bt.rec (motive := fun _ => β) (k (.node (some x) .nil .nil)) (fun _ l r _ _ => k (.node (some x) l r)) t)
    (fun _ ih t k => Bt.rec (motive := fun _ => β) (ih .nil fun l => k (.node none l .nil)) (fun v l r _ _ => ih l fun l => k (.node v l r)) t)
    (fun _ ih t k => Bt.rec (motive := fun _ => β) (ih .nil fun r => k (.node none .nil r)) (fun v l r _ _ => ih r fun r => k (.node v l r)) t) p

/-- Set, and go on with the new map. -/
noncomputable def set (t : Bt α) (n : Nat) (x : α) (k : Bt α → β) : β := setP x (path n) t k

noncomputable def delF (f : Nat) : Bt α → Nat → (Bt α → β) → β :=
  Nat.rec (motive := fun _ => Bt α → Nat → (Bt α → β) → β) (fun t _ k => k t)
    (fun _ ih t n k => Bt.rec (motive := fun _ => β) (k .nil)
      (fun v l r _ _ => Nat.rec (motive := fun _ => β) (k (.node none l r))
        (fun m _ => Bool.rec (motive := fun _ => β) (ih r (Nat.div m 2) fun r => k (.node v l r)) (ih l (Nat.div m 2) fun l => k (.node v l r)) (Nat.beq (Nat.mod m 2) 0)) n)
      t) f

noncomputable def del (t : Bt α) (n : Nat) (k : Bt α → β) : β := delF (Nat.succ n) t n k

/-! What they come to -/

theorem beq_mod (m : Nat) : Nat.beq (m % 2) 0 = decide (m % 2 = 0) := by
  have h : m % 2 = 0 ∨ m % 2 = 1 := by omega
  rcases h with h | h <;> rw [h] <;> rfl

theorem pathF_succ (f m : Nat) : pathF (f + 1) (m + 1) = if m % 2 = 0 then .l (pathF f (m / 2)) else .r (pathF f (m / 2)) := by
  show Bool.rec (motive := fun _ => Pa) (.r (pathF f (m / 2))) (.l (pathF f (m / 2))) (Nat.beq (m % 2) 0) = _
  rw [beq_mod]
  by_cases h : m % 2 = 0 <;> simp [h]

theorem pathF_eq (f : Nat) : ∀ (n : Nat), n < f → pathF f n = pathF (n + 1) n := by
  induction f using Nat.strongRecOn with
  | _ f ih =>
    intro n hn
    cases f with
    | zero => omega
    | succ f =>
      cases n with
      | zero => rfl
      | succ m =>
        rw [pathF_succ, pathF_succ, ih f (by omega) (m / 2) (by omega)]
        by_cases h : m + 1 < f + 1
        · rw [ih (m + 1) (by omega) (m / 2) (by omega)]
        · omega

theorem path_succ (m : Nat) : path (m + 1) = if m % 2 = 0 then .l (path (m / 2)) else .r (path (m / 2)) := by
  show pathF (m + 1 + 1) (m + 1) = _
  rw [pathF_succ, pathF_eq (m + 1) (m / 2) (by omega)]; rfl

theorem get_nil (n : Nat) : (Bt.nil : Bt α).get n = none := by
  unfold get
  cases path n <;> rfl
theorem get_node_zero (v : Option α) (l r : Bt α) : (Bt.node v l r).get 0 = v := rfl
theorem get_node_succ (v : Option α) (l r : Bt α) (m : Nat) : (Bt.node v l r).get (m + 1) = if m % 2 = 0 then l.get (m / 2) else r.get (m / 2) := by
  unfold get
  rw [path_succ]
  by_cases h : m % 2 = 0
  · simp only [h, if_true]; rfl
  · simp only [h, if_false]; rfl

/-- The new map, plainly. -/
def putF (x : α) : Nat → Bt α → Nat → Bt α
  | 0, t, _ => t
  | f + 1, .nil, n =>
    match n with
    | 0 => .node (some x) .nil .nil
    | m + 1 => if m % 2 = 0 then .node none (putF x f .nil (m / 2)) .nil else .node none .nil (putF x f .nil (m / 2))
  | f + 1, .node v l r, n =>
    match n with
    | 0 => .node (some x) l r
    | m + 1 => if m % 2 = 0 then .node v (putF x f l (m / 2)) r else .node v l (putF x f r (m / 2))

def put (t : Bt α) (n : Nat) (x : α) : Bt α := putF x (n + 1) t n

def dropF : Nat → Bt α → Nat → Bt α
  | 0, t, _ => t
  | _ + 1, .nil, _ => .nil
  | f + 1, .node v l r, n =>
    match n with
    | 0 => .node none l r
    | m + 1 => if m % 2 = 0 then .node v (dropF f l (m / 2)) r else .node v l (dropF f r (m / 2))

def drop (t : Bt α) (n : Nat) : Bt α := dropF (n + 1) t n

theorem setP_eq (x : α) (f : Nat) : ∀ (n : Nat) (t : Bt α) (k : Bt α → β), n < f → setP x (path n) t k = k (putF x f t n) := by
  induction f with
  | zero => intro n t k h; omega
  | succ f ih =>
    intro n t k hn
    cases n with
    | zero => cases t <;> rfl
    | succ m =>
      rw [path_succ]
      by_cases h : m % 2 = 0
      · simp only [h, if_true]
        cases t with
        | nil =>
          show setP x (path (m / 2)) .nil (fun l => k (.node none l .nil)) = _
          rw [ih _ _ _ (by omega)]; simp [putF, h]
        | node v l r =>
          show setP x (path (m / 2)) l (fun l => k (.node v l r)) = _
          rw [ih _ _ _ (by omega)]; simp [putF, h]
      · simp only [h, if_false]
        cases t with
        | nil =>
          show setP x (path (m / 2)) .nil (fun l => k (.node none .nil l)) = _
          rw [ih _ _ _ (by omega)]; simp [putF, h]
        | node v l r =>
          show setP x (path (m / 2)) r (fun r => k (.node v l r)) = _
          rw [ih _ _ _ (by omega)]; simp [putF, h]

theorem set_eq (t : Bt α) (n : Nat) (x : α) (k : Bt α → β) : t.set n x k = k (t.put n x) := setP_eq x _ n t k (by omega)

theorem delF_eq (f : Nat) : ∀ (t : Bt α) (n : Nat) (k : Bt α → β), delF f t n k = k (dropF f t n) := by
  induction f with
  | zero => intro t n k; cases t <;> rfl
  | succ f ih =>
    intro t n k
    cases t with
    | nil => cases n <;> rfl
    | node v l r =>
      cases n with
      | zero => rfl
      | succ m =>
        show Bool.rec (motive := fun _ => β) (delF f r (m / 2) fun r => k (.node v l r)) (delF f l (m / 2) fun l => k (.node v l r)) (Nat.beq (m % 2) 0) = _
        rw [beq_mod, ih, ih]
        by_cases h : m % 2 = 0 <;> simp [dropF, h]

theorem del_eq (t : Bt α) (n : Nat) (k : Bt α → β) : t.del n k = k (t.drop n) := delF_eq _ t n k

theorem get_putF (x : α) (f : Nat) : ∀ (t : Bt α) (n j : Nat), n < f → (putF x f t n).get j = if j = n then some x else t.get j := by
  induction f with
  | zero => intro t n j h; omega
  | succ f ih =>
    intro t n j hn
    cases t with
    | nil =>
      cases n with
      | zero =>
        cases j with
        | zero => simp [putF, get_node_zero]
        | succ j => simp only [putF, get_node_succ, get_nil]; split <;> simp
      | succ m =>
        by_cases h : m % 2 = 0
        · simp only [putF, h, if_true]
          cases j with
          | zero => simp [get_node_zero, get_nil]
          | succ j =>
            rw [get_node_succ]
            by_cases hj : j % 2 = 0
            · rw [if_pos hj, ih _ _ _ (by omega)]
              by_cases e : j = m
              · subst e; simp
              · rw [if_neg (by omega), if_neg (by omega), get_nil, get_nil]
            · rw [if_neg hj, if_neg (by omega), get_nil, get_nil]
        · simp only [putF, h, if_false]
          cases j with
          | zero => simp [get_node_zero, get_nil]
          | succ j =>
            rw [get_node_succ]
            by_cases hj : j % 2 = 0
            · rw [if_pos hj, if_neg (by omega), get_nil, get_nil]
            · rw [if_neg hj, ih _ _ _ (by omega)]
              by_cases e : j = m
              · subst e; simp
              · rw [if_neg (by omega), if_neg (by omega), get_nil, get_nil]
    | node v l r =>
      cases n with
      | zero =>
        cases j with
        | zero => simp [putF, get_node_zero]
        | succ j => simp [putF, get_node_succ]
      | succ m =>
        by_cases h : m % 2 = 0
        · simp only [putF, h, if_true]
          cases j with
          | zero => simp [get_node_zero]
          | succ j =>
            rw [get_node_succ, get_node_succ]
            by_cases hj : j % 2 = 0
            · rw [if_pos hj, if_pos hj, ih _ _ _ (by omega)]
              by_cases e : j = m
              · subst e; simp
              · rw [if_neg (by omega), if_neg (by omega)]
            · rw [if_neg hj, if_neg hj, if_neg (by omega)]
        · simp only [putF, h, if_false]
          cases j with
          | zero => simp [get_node_zero]
          | succ j =>
            rw [get_node_succ, get_node_succ]
            by_cases hj : j % 2 = 0
            · rw [if_pos hj, if_pos hj, if_neg (by omega)]
            · rw [if_neg hj, if_neg hj, ih _ _ _ (by omega)]
              by_cases e : j = m
              · subst e; simp
              · rw [if_neg (by omega), if_neg (by omega)]

theorem get_put (t : Bt α) (n j : Nat) (x : α) : (t.put n x).get j = if j = n then some x else t.get j := get_putF x _ t n j (by omega)

theorem get_dropF (f : Nat) : ∀ (t : Bt α) (n j : Nat), n < f → (dropF f t n).get j = if j = n then none else t.get j := by
  induction f with
  | zero => intro t n j h; omega
  | succ f ih =>
    intro t n j hn
    cases t with
    | nil => simp [dropF, get_nil]
    | node v l r =>
      cases n with
      | zero =>
        cases j with
        | zero => simp [dropF, get_node_zero]
        | succ j => simp [dropF, get_node_succ]
      | succ m =>
        by_cases h : m % 2 = 0
        · simp only [dropF, h, if_true]
          cases j with
          | zero => simp [get_node_zero]
          | succ j =>
            rw [get_node_succ, get_node_succ]
            by_cases hj : j % 2 = 0
            · rw [if_pos hj, if_pos hj, ih _ _ _ (by omega)]
              by_cases e : j = m
              · subst e; simp
              · rw [if_neg (by omega), if_neg (by omega)]
            · rw [if_neg hj, if_neg hj, if_neg (by omega)]
        · simp only [dropF, h, if_false]
          cases j with
          | zero => simp [get_node_zero]
          | succ j =>
            rw [get_node_succ, get_node_succ]
            by_cases hj : j % 2 = 0
            · rw [if_pos hj, if_pos hj, if_neg (by omega)]
            · rw [if_neg hj, if_neg hj, ih _ _ _ (by omega)]
              by_cases e : j = m
              · subst e; simp
              · rw [if_neg (by omega), if_neg (by omega)]

theorem get_drop (t : Bt α) (n j : Nat) : (t.drop n).get j = if j = n then none else t.get j := get_dropF _ t n j (by omega)

end Bt

/-! ### A finite map: a tree of eight branches, of six levels; numbers beyond it lie in a binary tree -/

/-- A node: what stands here, and eight branches. -/
structure N (α β : Type) where
  v : Option α
  c0 : β
  c1 : β
  c2 : β
  c3 : β
  c4 : β
  c5 : β
  c6 : β
  c7 : β

/-- A way. -/
inductive Pa where
  | z
  | d0 (p : Pa)
  | d1 (p : Pa)
  | d2 (p : Pa)
  | d3 (p : Pa)
  | d4 (p : Pa)
  | d5 (p : Pa)
  | d6 (p : Pa)
  | d7 (p : Pa)
  deriving DecidableEq

inductive PT where
  | lo (p : Pa)
  | hi (n : Nat)

def M (α : Type) (k : Nat) : Type := Nat.rec (motive := fun _ => Type) PUnit (fun _ ih => N α ih) k

noncomputable def emp (α : Type) (k : Nat) : M α k := Nat.rec (motive := fun k => M α k) ⟨⟩ (fun _ ih => (⟨none, ih, ih, ih, ih, ih, ih, ih, ih⟩ : N α _)) k

noncomputable def getL {α : Type} (k : Nat) : Pa → M α k → Option α :=
  Nat.rec (motive := fun k => Pa → M α k → Option α) (fun _ _ => none)
    (fun k ih p => Pa.rec (motive := fun _ => N α (M α k) → Option α) (fun t => t.v)
      (fun p _ t => ih p t.c0)
      (fun p _ t => ih p t.c1)
      (fun p _ t => ih p t.c2)
      (fun p _ t => ih p t.c3)
      (fun p _ t => ih p t.c4)
      (fun p _ t => ih p t.c5)
      (fun p _ t => ih p t.c6)
      (fun p _ t => ih p t.c7) p) k

/-- Set (x: some), or strike (x: none), and go on with the new map. -/
noncomputable def setL {α β : Type} (k : Nat) : Pa → Option α → M α k → (M α k → β) → β :=
  Nat.rec (motive := fun k => Pa → Option α → M α k → (M α k → β) → β) (fun _ _ t f => f t)
    (fun k ih p => Pa.rec (motive := fun _ => Option α → N α (M α k) → (N α (M α k) → β) → β)
      (fun x t f => N.rec (motive := fun _ => β) (fun _ c0 c1 c2 c3 c4 c5 c6 c7 => f ⟨x, c0, c1, c2, c3, c4, c5, c6, c7⟩) t)
      (fun p _ x t f => N.rec (motive := fun _ => β) (fun v c0 c1 c2 c3 c4 c5 c6 c7 => ih p x c0 fun c0 => f ⟨v, c0, c1, c2, c3, c4, c5, c6, c7⟩) t)
      (fun p _ x t f => N.rec (motive := fun _ => β) (fun v c0 c1 c2 c3 c4 c5 c6 c7 => ih p x c1 fun c1 => f ⟨v, c0, c1, c2, c3, c4, c5, c6, c7⟩) t)
      (fun p _ x t f => N.rec (motive := fun _ => β) (fun v c0 c1 c2 c3 c4 c5 c6 c7 => ih p x c2 fun c2 => f ⟨v, c0, c1, c2, c3, c4, c5, c6, c7⟩) t)
      (fun p _ x t f => N.rec (motive := fun _ => β) (fun v c0 c1 c2 c3 c4 c5 c6 c7 => ih p x c3 fun c3 => f ⟨v, c0, c1, c2, c3, c4, c5, c6, c7⟩) t)
      (fun p _ x t f => N.rec (motive := fun _ => β) (fun v c0 c1 c2 c3 c4 c5 c6 c7 => ih p x c4 fun c4 => f ⟨v, c0, c1, c2, c3, c4, c5, c6, c7⟩) t)
      (fun p _ x t f => N.rec (motive := fun _ => β) (fun v c0 c1 c2 c3 c4 c5 c6 c7 => ih p x c5 fun c5 => f ⟨v, c0, c1, c2, c3, c4, c5, c6, c7⟩) t)
      (fun p _ x t f => N.rec (motive := fun _ => β) (fun v c0 c1 c2 c3 c4 c5 c6 c7 => ih p x c6 fun c6 => f ⟨v, c0, c1, c2, c3, c4, c5, c6, c7⟩) t)
      (fun p _ x t f => N.rec (motive := fun _ => β) (fun v c0 c1 c2 c3 c4 c5 c6 c7 => ih p x c7 fun c7 => f ⟨v, c0, c1, c2, c3, c4, c5, c6, c7⟩) t) p) k

/-- The new map, plainly. -/
noncomputable def updL {α : Type} (x : Option α) (k : Nat) : Pa → M α k → M α k :=
  Nat.rec (motive := fun k => Pa → M α k → M α k) (fun _ t => t)
    (fun k ih p => Pa.rec (motive := fun _ => N α (M α k) → N α (M α k)) (fun t => { t with v := x })
      (fun p _ t => { t with c0 := ih p t.c0 })
      (fun p _ t => { t with c1 := ih p t.c1 })
      (fun p _ t => { t with c2 := ih p t.c2 })
      (fun p _ t => { t with c3 := ih p t.c3 })
      (fun p _ t => { t with c4 := ih p t.c4 })
      (fun p _ t => { t with c5 := ih p t.c5 })
      (fun p _ t => { t with c6 := ih p t.c6 })
      (fun p _ t => { t with c7 := ih p t.c7 }) p) k

def Pa.len : Pa → Nat
  | .z => 0
  | .d0 p => p.len + 1
  | .d1 p => p.len + 1
  | .d2 p => p.len + 1
  | .d3 p => p.len + 1
  | .d4 p => p.len + 1
  | .d5 p => p.len + 1
  | .d6 p => p.len + 1
  | .d7 p => p.len + 1

theorem setL_eq {α β : Type} (x : Option α) : ∀ (k : Nat) (p : Pa) (t : M α k) (f : M α k → β), setL k p x t f = f (updL x k p t)
  | 0, p, t, f => rfl
  | k + 1, p, t, f => by
    cases p with
    | z => rfl
    | d0 p => exact setL_eq x k p (N.c0 (α := α) (β := M α k) t) _
    | d1 p => exact setL_eq x k p (N.c1 (α := α) (β := M α k) t) _
    | d2 p => exact setL_eq x k p (N.c2 (α := α) (β := M α k) t) _
    | d3 p => exact setL_eq x k p (N.c3 (α := α) (β := M α k) t) _
    | d4 p => exact setL_eq x k p (N.c4 (α := α) (β := M α k) t) _
    | d5 p => exact setL_eq x k p (N.c5 (α := α) (β := M α k) t) _
    | d6 p => exact setL_eq x k p (N.c6 (α := α) (β := M α k) t) _
    | d7 p => exact setL_eq x k p (N.c7 (α := α) (β := M α k) t) _

theorem getL_updL {α : Type} (x : Option α) : ∀ (k : Nat) (p q : Pa) (t : M α k), p.len < k → getL k q (updL x k p t) = if q = p then x else getL k q t
  | 0, p, q, t, h => by omega
  | k + 1, p, q, t, h => by
    cases p with
    | z => cases q with
      | z => rfl
      | _ => rfl
    | d0 p => cases q with
      | d0 q =>
        have := getL_updL x k p q (N.c0 (α := α) (β := M α k) t) (by simp [Pa.len] at h; omega)
        refine Eq.trans this ?_
        by_cases e : q = p
        · rw [if_pos e, if_pos (by rw [e])]
        · rw [if_neg e, if_neg (fun h => e (by cases h; rfl))]; rfl
      | _ => rfl
    | d1 p => cases q with
      | d1 q =>
        have := getL_updL x k p q (N.c1 (α := α) (β := M α k) t) (by simp [Pa.len] at h; omega)
        refine Eq.trans this ?_
        by_cases e : q = p
        · rw [if_pos e, if_pos (by rw [e])]
        · rw [if_neg e, if_neg (fun h => e (by cases h; rfl))]; rfl
      | _ => rfl
    | d2 p => cases q with
      | d2 q =>
        have := getL_updL x k p q (N.c2 (α := α) (β := M α k) t) (by simp [Pa.len] at h; omega)
        refine Eq.trans this ?_
        by_cases e : q = p
        · rw [if_pos e, if_pos (by rw [e])]
        · rw [if_neg e, if_neg (fun h => e (by cases h; rfl))]; rfl
      | _ => rfl
    | d3 p => cases q with
      | d3 q =>
        have := getL_updL x k p q (N.c3 (α := α) (β := M α k) t) (by simp [Pa.len] at h; omega)
        refine Eq.trans this ?_
        by_cases e : q = p
        · rw [if_pos e, if_pos (by rw [e])]
        · rw [if_neg e, if_neg (fun h => e (by cases h; rfl))]; rfl
      | _ => rfl
    | d4 p => cases q with
      | d4 q =>
        have := getL_updL x k p q (N.c4 (α := α) (β := M α k) t) (by simp [Pa.len] at h; omega)
        refine Eq.trans this ?_
        by_cases e : q = p
        · rw [if_pos e, if_pos (by rw [e])]
        · rw [if_neg e, if_neg (fun h => e (by cases h; rfl))]; rfl
      | _ => rfl
    | d5 p => cases q with
      | d5 q =>
        have := getL_updL x k p q (N.c5 (α := α) (β := M α k) t) (by simp [Pa.len] at h; omega)
        refine Eq.trans this ?_
        by_cases e : q = p
        · rw [if_pos e, if_pos (by rw [e])]
        · rw [if_neg e, if_neg (fun h => e (by cases h; rfl))]; rfl
      | _ => rfl
    | d6 p => cases q with
      | d6 q =>
        have := getL_updL x k p q (N.c6 (α := α) (β := M α k) t) (by simp [Pa.len] at h; omega)
        refine Eq.trans this ?_
        by_cases e : q = p
        · rw [if_pos e, if_pos (by rw [e])]
        · rw [if_neg e, if_neg (fun h => e (by cases h; rfl))]; rfl
      | _ => rfl
    | d7 p => cases q with
      | d7 q =>
        have := getL_updL x k p q (N.c7 (α := α) (β := M α k) t) (by simp [Pa.len] at h; omega)
        refine Eq.trans this ?_
        by_cases e : q = p
        · rw [if_pos e, if_pos (by rw [e])]
        · rw [if_neg e, if_neg (fun h => e (by cases h; rfl))]; rfl
      | _ => rfl

theorem getL_emp {α : Type} : ∀ (k : Nat) (q : Pa), getL k q (emp α k) = none
  | 0, q => rfl
  | k + 1, q => by
    cases q with
    | z => rfl
    | d0 q => exact getL_emp k q
    | d1 q => exact getL_emp k q
    | d2 q => exact getL_emp k q
    | d3 q => exact getL_emp k q
    | d4 q => exact getL_emp k q
    | d5 q => exact getL_emp k q
    | d6 q => exact getL_emp k q
    | d7 q => exact getL_emp k q

/-! Ways of numbers -/

noncomputable def dig (k : Nat) (p : Pa) : Pa :=
  Nat.rec (motive := fun _ => Pa) (.d0 p) (fun k _ => Nat.rec (motive := fun _ => Pa) (.d1 p) (fun k _ => Nat.rec (motive := fun _ => Pa) (.d2 p) (fun k _ => Nat.rec (motive := fun _ => Pa) (.d3 p) (fun k _ => Nat.rec (motive := fun _ => Pa) (.d4 p) (fun k _ => Nat.rec (motive := fun _ => Pa) (.d5 p) (fun k _ => Nat.rec (motive := fun _ => Pa) (.d6 p) (fun k _ => .d7 p) k) k) k) k) k) k) k

noncomputable def pathF (f : Nat) : Nat → Pa :=
  Nat.rec (motive := fun _ => Nat → Pa) (fun _ => .z) (fun _ ih n => Nat.rec (motive := fun _ => Pa) .z (fun m _ => dig (Nat.mod m 8) (ih (Nat.div m 8))) n) f

noncomputable def path (n : Nat) : PT := Bool.rec (motive := fun _ => PT) (.hi n) (.lo (pathF 6 n)) (Nat.ble n 37448)

def Pa.val : Pa → Nat
  | .z => 0
  | .d0 p => 8 * p.val + 1
  | .d1 p => 8 * p.val + 2
  | .d2 p => 8 * p.val + 3
  | .d3 p => 8 * p.val + 4
  | .d4 p => 8 * p.val + 5
  | .d5 p => 8 * p.val + 6
  | .d6 p => 8 * p.val + 7
  | .d7 p => 8 * p.val + 8

theorem dig_val (k : Nat) (p : Pa) (h : k < 8) : (dig k p).val = 8 * p.val + k + 1 ∧ (dig k p).len = p.len + 1 := by
  have h' : k = 0 ∨ k = 1 ∨ k = 2 ∨ k = 3 ∨ k = 4 ∨ k = 5 ∨ k = 6 ∨ k = 7 := by omega
  rcases h' with rfl | rfl | rfl | rfl | rfl | rfl | rfl | rfl <;> exact ⟨rfl, rfl⟩

def lim : Nat → Nat
  | 0 => 0
  | f + 1 => 8 * lim f + 1

theorem pathF_val : ∀ (f n : Nat), n < lim f → (pathF f n).val = n ∧ (pathF f n).len < f
  | 0, n, h => by simp [lim] at h
  | f + 1, 0, h => ⟨rfl, Nat.succ_pos _⟩
  | f + 1, m + 1, h => by
    have ih := pathF_val f (m / 8) (by simp [lim] at h; omega)
    have hd := dig_val (m % 8) (pathF f (m / 8)) (by omega)
    show (dig (m % 8) (pathF f (m / 8))).val = m + 1 ∧ (dig (m % 8) (pathF f (m / 8))).len < f + 1
    rw [hd.1, hd.2, ih.1]
    exact ⟨by omega, by omega⟩

structure Tr (α : Type) where
  lo : M α 6
  hi : Bt α

namespace Tr
variable {α β : Type}

noncomputable def nil : Tr α := ⟨emp α 6, .nil⟩

noncomputable def getT (p : PT) : Tr α → Option α := PT.rec (motive := fun _ => Tr α → Option α) (fun p t => getL 6 p t.lo) (fun n t => t.hi.get n) p
noncomputable def get (t : Tr α) (n : Nat) : Option α := getT (path n) t

noncomputable def setT (p : PT) : α → Tr α → (Tr α → β) → β :=
  PT.rec (motive := fun _ => α → Tr α → (Tr α → β) → β) (fun p x t k => Tr.rec (motive := fun _ => β) (fun lo hi => setL 6 p (some x) lo fun lo => k ⟨lo, hi⟩) t)
    (fun n x t k => Tr.rec (motive := fun _ => β) (fun lo hi => hi.set n x fun hi => k ⟨lo, hi⟩) t) p
/-- Set, and go on with the new map. -/
noncomputable def set (t : Tr α) (n : Nat) (x : α) (k : Tr α → β) : β := setT (path n) x t k

noncomputable def delT (p : PT) : Tr α → (Tr α → β) → β :=
  PT.rec (motive := fun _ => Tr α → (Tr α → β) → β) (fun p t k => Tr.rec (motive := fun _ => β) (fun lo hi => setL 6 p none lo fun lo => k ⟨lo, hi⟩) t)
    (fun n t k => Tr.rec (motive := fun _ => β) (fun lo hi => hi.del n fun hi => k ⟨lo, hi⟩) t) p
noncomputable def del (t : Tr α) (n : Nat) (k : Tr α → β) : β := delT (path n) t k

noncomputable def put (t : Tr α) (n : Nat) (x : α) : Tr α := set t n x fun t => t
noncomputable def drop (t : Tr α) (n : Nat) : Tr α := del t n fun t => t

theorem set_eq (t : Tr α) (n : Nat) (x : α) (k : Tr α → β) : t.set n x k = k (t.put n x) := by
  unfold put set
  cases path n with
  | lo p =>
    show setL 6 p (some x) t.lo (fun lo => k ⟨lo, t.hi⟩) = k (setL 6 p (some x) t.lo fun lo => ⟨lo, t.hi⟩)
    rw [setL_eq, setL_eq]
  | hi n =>
    show t.hi.set n x (fun hi => k ⟨t.lo, hi⟩) = k (t.hi.set n x fun hi => ⟨t.lo, hi⟩)
    rw [Bt.set_eq, Bt.set_eq]

theorem del_eq (t : Tr α) (n : Nat) (k : Tr α → β) : t.del n k = k (t.drop n) := by
  unfold drop del
  cases path n with
  | lo p =>
    show setL 6 p none t.lo (fun lo => k ⟨lo, t.hi⟩) = k (setL 6 p none t.lo fun lo => ⟨lo, t.hi⟩)
    rw [setL_eq, setL_eq]
  | hi n =>
    show t.hi.del n (fun hi => k ⟨t.lo, hi⟩) = k (t.hi.del n fun hi => ⟨t.lo, hi⟩)
    rw [Bt.del_eq, Bt.del_eq]

theorem path_lo {n : Nat} (h : n ≤ 37448) : path n = .lo (pathF 6 n) := by
  unfold path
  rw [Nat.ble_eq_true_of_le h]
theorem path_hi {n : Nat} (h : 37448 < n) : path n = .hi n := by
  unfold path
  have e : Nat.ble n 37448 = false := by
    cases e : Nat.ble n 37448 with
    | false => rfl
    | true => have := Nat.le_of_ble_eq_true e; omega
  rw [e]

theorem get_nil (n : Nat) : (Tr.nil : Tr α).get n = none := by
  unfold get
  cases path n with
  | lo p => exact getL_emp 6 p
  | hi n => exact Bt.get_nil n

theorem pathF_inj {n m : Nat} (hn : n ≤ 37448) (hm : m ≤ 37448) (h : pathF 6 n = pathF 6 m) : n = m := by
  have l : 37448 < lim 6 := by decide
  have a := (pathF_val 6 n (by omega)).1
  have b := (pathF_val 6 m (by omega)).1
  rw [h, b] at a; exact a.symm

theorem get_put (t : Tr α) (n j : Nat) (x : α) : (t.put n x).get j = if j = n then some x else t.get j := by
  have l : 37448 < lim 6 := by decide
  unfold put set get
  rcases Nat.lt_or_ge 37448 n with hn | hn
  · rw [path_hi hn]
    show getT (path j) (t.hi.set n x fun hi => (⟨t.lo, hi⟩ : Tr α)) = _
    rw [Bt.set_eq]
    rcases Nat.lt_or_ge 37448 j with hj | hj
    · rw [path_hi hj]
      exact Bt.get_put t.hi n j x
    · rw [path_lo hj, if_neg (by omega)]; rfl
  · rw [path_lo hn]
    show getT (path j) (setL 6 (pathF 6 n) (some x) t.lo fun lo => (⟨lo, t.hi⟩ : Tr α)) = _
    rw [setL_eq]
    rcases Nat.lt_or_ge 37448 j with hj | hj
    · rw [path_hi hj, if_neg (by omega)]; rfl
    · rw [path_lo hj]
      show getL 6 (pathF 6 j) (updL (some x) 6 (pathF 6 n) t.lo) = _
      rw [getL_updL _ _ _ _ _ (pathF_val 6 n (by omega)).2]
      by_cases e : j = n
      · subst e; rw [if_pos rfl, if_pos rfl]
      · rw [if_neg (fun h => e (pathF_inj hj hn h)), if_neg e]; rfl

theorem get_drop (t : Tr α) (n j : Nat) : (t.drop n).get j = if j = n then none else t.get j := by
  have l : 37448 < lim 6 := by decide
  unfold drop del get
  rcases Nat.lt_or_ge 37448 n with hn | hn
  · rw [path_hi hn]
    show getT (path j) (t.hi.del n fun hi => (⟨t.lo, hi⟩ : Tr α)) = _
    rw [Bt.del_eq]
    rcases Nat.lt_or_ge 37448 j with hj | hj
    · rw [path_hi hj]
      exact Bt.get_drop t.hi n j
    · rw [path_lo hj, if_neg (by omega)]; rfl
  · rw [path_lo hn]
    show getT (path j) (setL 6 (pathF 6 n) none t.lo fun lo => (⟨lo, t.hi⟩ : Tr α)) = _
    rw [setL_eq]
    rcases Nat.lt_or_ge 37448 j with hj | hj
    · rw [path_hi hj, if_neg (by omega)]; rfl
    · rw [path_lo hj]
      show getL 6 (pathF 6 j) (updL none 6 (pathF 6 n) t.lo) = _
      rw [getL_updL _ _ _ _ _ (pathF_val 6 n (by omega)).2]
      by_cases e : j = n
      · subst e; rw [if_pos rfl, if_pos rfl]
      · rw [if_neg (fun h => e (pathF_inj hj hn h)), if_neg e]; rfl

end Tr
end Go.Ab
