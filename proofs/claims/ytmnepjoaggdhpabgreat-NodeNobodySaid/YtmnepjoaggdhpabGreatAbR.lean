/-
  HOW THE ABSTRACT MACHINE's VALUES AND MEMORY STAND FOR THE MODEL's.
-/
import Derived.Test.YtmnepjoaggdhpabGreatAbTab
import Derived.Calls
import Derived.Laws.Sem
import Derived.Laws.World
import Derived.Laws.Strings
import Derived.Laws.Cells
set_option linter.unusedVariables false
namespace Go.Ab

/-- Where a block of the machine lies: in which block of the world, from which cell on, how many cells that has. -/
structure Loc where
  b : Nat
  o : Nat
  n : Nat

abbrev Inj := Id → Option Loc

def Ext (ρ ρ' : Inj) : Prop := ∀ i l, ρ i = some l → ρ' i = some l

theorem Ext.refl (ρ : Inj) : Ext ρ ρ := fun _ _ h => h
/-- What was named keeps its place; no old name is given anew. -/
structure ExtN (N : Nat) (ρ ρ' : Inj) : Prop where
  ext : Ext ρ ρ'
  old : ∀ i, i < N → ρ' i = ρ i

theorem ExtN.refl (N : Nat) (ρ : Inj) : ExtN N ρ ρ := ⟨Ext.refl _, fun _ _ => rfl⟩

theorem Ext.trans {ρ ρ' ρ'' : Inj} (h : Ext ρ ρ') (h' : Ext ρ' ρ'') : Ext ρ ρ'' := fun i l e => h' i l (h i l e)

mutual
def VRel (ρ : Inj) : AV → Value → Prop
  | .raw v, v' => v' = v ∧ v.oneCell' = true
  | .ptr i off, v' => ∃ l, ρ i = some l ∧ v' = .pointer (some ⟨l.b, l.o + off, none⟩)
  | .sl i off len lo ex es, v' => ∃ l cap, ρ i = some l ∧ v' = .slice (some ⟨l.b, l.o + off, none⟩) len cap ∧ len ≤ lo ∧ lo ≤ cap ∧ (ex = true → cap = lo) ∧ l.o + off + cap * es ≤ l.n
  | .sl0 ex, v' => ∃ a cap, v' = .slice (some a) 0 cap ∧ (ex = true → cap = 0)
  | .map i, v' => ∃ l, ρ i = some l ∧ v' = .map (some l.b)
  | .fn f a c, v' => ∃ a' c', v' = .func f a' c' ∧ VsRel ρ a a'.toList ∧ VsRel ρ c c'.toList
  | .iface t v, v' => ∃ x, v' = .iface t x ∧ VRel ρ v x
  | .agg l, v' => ∃ c, v' = .agg c ∧ VsRel ρ l c.toList ∧ ∀ x ∈ c.toList, x.oneCell' = true
  | .tup l, v' => ∃ c, v' = .tuple c ∧ VsRel ρ l c.toList
  | .any, v' => v'.oneCell' = true
def VsRel (ρ : Inj) : List AV → List Value → Prop
  | [], l => l = []
  | a :: as, l => ∃ v vs, l = v :: vs ∧ VRel ρ a v ∧ VsRel ρ as vs
end

mutual
theorem VRel.mono {ρ ρ' : Inj} (h : Ext ρ ρ') : ∀ {a : AV} {v : Value}, VRel ρ a v → VRel ρ' a v
  | .raw _, _, hv => by simpa [VRel] using hv
  | .ptr i off, _, hv => by
    simp only [VRel] at *
    obtain ⟨l, hl, e⟩ := hv
    exact ⟨l, h _ _ hl, e⟩
  | .sl i off len lo ex es, _, hv => by
    simp only [VRel] at *
    obtain ⟨l, cap, hl, e⟩ := hv
    exact ⟨l, cap, h _ _ hl, e⟩
  | .sl0 _, _, hv => by simpa [VRel] using hv
  | .map i, _, hv => by
    simp only [VRel] at *
    obtain ⟨l, hl, e⟩ := hv
    exact ⟨l, h _ _ hl, e⟩
  | .fn f a c, _, hv => by
    simp only [VRel] at *
    obtain ⟨a', c', e, h1, h2⟩ := hv
    exact ⟨a', c', e, VsRel.mono h h1, VsRel.mono h h2⟩
  | .iface t x, _, hv => by
    simp only [VRel] at *
    obtain ⟨y, e, h1⟩ := hv
    exact ⟨y, e, VRel.mono h h1⟩
  | .agg l, _, hv => by
    simp only [VRel] at *
    obtain ⟨c, e, h1, h2⟩ := hv
    exact ⟨c, e, VsRel.mono h h1, h2⟩
  | .tup l, _, hv => by
    simp only [VRel] at *
    obtain ⟨c, e, h1⟩ := hv
    exact ⟨c, e, VsRel.mono h h1⟩
  | .any, _, hv => by simpa [VRel] using hv
theorem VsRel.mono {ρ ρ' : Inj} (h : Ext ρ ρ') : ∀ {l : List AV} {vs : List Value}, VsRel ρ l vs → VsRel ρ' l vs
  | [], _, hv => by simpa [VsRel] using hv
  | a :: as, _, hv => by
    simp only [VsRel] at *
    obtain ⟨v, vs, e, h1, h2⟩ := hv
    exact ⟨v, vs, e, VRel.mono h h1, VsRel.mono h h2⟩
end

/-! ### Lists -/

theorem VsRel.nil {ρ : Inj} : VsRel ρ [] [] := by simp [VsRel]
theorem VsRel.cons {ρ : Inj} {a : AV} {v : Value} {as : List AV} {vs : List Value} (h : VRel ρ a v) (hs : VsRel ρ as vs) : VsRel ρ (a :: as) (v :: vs) := by
  simp only [VsRel]; exact ⟨v, vs, rfl, h, hs⟩
theorem VsRel.nil_iff {ρ : Inj} {l : List Value} : VsRel ρ [] l ↔ l = [] := by simp [VsRel]
theorem VsRel.cons_inv {ρ : Inj} {a : AV} {as : List AV} {l : List Value} (h : VsRel ρ (a :: as) l) : ∃ v vs, l = v :: vs ∧ VRel ρ a v ∧ VsRel ρ as vs := by
  simpa only [VsRel] using h

theorem VsRel.length {ρ : Inj} : ∀ {l : List AV} {vs : List Value}, VsRel ρ l vs → vs.length = l.length
  | [], _, h => by rw [VsRel.nil_iff.1 h]; rfl
  | a :: as, _, h => by
    obtain ⟨v, vs, rfl, _, h2⟩ := h.cons_inv
    simp [h2.length]

theorem VsRel.append {ρ : Inj} : ∀ {l l' : List AV} {vs vs' : List Value}, VsRel ρ l vs → VsRel ρ l' vs' → VsRel ρ (l ++ l') (vs ++ vs')
  | [], _, _, _, h, h' => by rw [VsRel.nil_iff.1 h]; exact h'
  | a :: as, _, _, _, h, h' => by
    obtain ⟨v, vs, rfl, h1, h2⟩ := h.cons_inv
    exact .cons h1 (h2.append h')

theorem VsRel.get {ρ : Inj} : ∀ {l : List AV} {vs : List Value} {i : Nat} {a : AV}, VsRel ρ l vs → l[i]? = some a → ∃ v, vs[i]? = some v ∧ VRel ρ a v
  | [], _, _, _, _, e => by simp at e
  | a :: as, _, 0, _, h, e => by
    obtain ⟨v, vs, rfl, h1, _⟩ := h.cons_inv
    simp at e; subst e
    exact ⟨v, rfl, h1⟩
  | a :: as, _, i + 1, _, h, e => by
    obtain ⟨v, vs, rfl, _, h2⟩ := h.cons_inv
    simp at e
    obtain ⟨v', e', h'⟩ := h2.get e
    exact ⟨v', by simpa using e', h'⟩

theorem VsRel.drop {ρ : Inj} : ∀ {l : List AV} {vs : List Value} (n : Nat), VsRel ρ l vs → VsRel ρ (l.drop n) (vs.drop n)
  | [], _, n, h => by rw [VsRel.nil_iff.1 h]; simp [VsRel]
  | a :: as, _, 0, h => by simpa using h
  | a :: as, _, n + 1, h => by
    obtain ⟨v, vs, rfl, _, h2⟩ := h.cons_inv
    simpa using h2.drop n

theorem VsRel.take {ρ : Inj} : ∀ {l : List AV} {vs : List Value} (n : Nat), VsRel ρ l vs → VsRel ρ (l.take n) (vs.take n)
  | [], _, n, h => by rw [VsRel.nil_iff.1 h]; simp [VsRel]
  | a :: as, _, 0, h => by simp [VsRel]
  | a :: as, _, n + 1, h => by
    obtain ⟨v, vs, rfl, h1, h2⟩ := h.cons_inv
    simpa using VsRel.cons h1 (h2.take n)

theorem VsRel.rep {ρ : Inj} {l : List AV} {vs : List Value} (h : VsRel ρ l vs) : ∀ n, VsRel ρ (rep l n) (Go.Ab.rep vs n)
  | 0 => by simp [Go.Ab.rep, VsRel]
  | n + 1 => h.append (h.rep n)

/-! ### Constants -/

theorem leaf_rel {ρ : Inj} {v : Value} {a : AV} (h : leaf v = some a) : VRel ρ a v ∧ v.oneCell' = true := by
  unfold leaf at h
  split at h <;> simp at h <;> subst h <;> simp [VRel, Value.oneCell']

theorem leaves_rel {ρ : Inj} : ∀ {vs : List Value} {l : List AV}, leaves vs = some l → VsRel ρ l vs ∧ ∀ x ∈ vs, x.oneCell' = true
  | [], l, h => by simp [leaves] at h; subst h; simp [VsRel]
  | v :: vs, l, h => by
    simp only [leaves] at h
    split at h
    · rename_i a ha
      split at h
      · rename_i as has
        simp at h; subst h
        have h1 := leaf_rel (ρ := ρ) ha
        have h2 := leaves_rel (ρ := ρ) has
        refine ⟨.cons h1.1 h2.1, ?_⟩
        intro x hx
        rcases List.mem_cons.1 hx with rfl | hx
        · exact h1.2
        · exact h2.2 x hx
      · simp at h
    · simp at h

theorem ofConst_rel {ρ : Inj} {v : Value} {a : AV} (h : ofConst v = some a) : VRel ρ a v := by
  unfold ofConst at h
  split at h
  · rename_i cs
    split at h
    · rename_i l hl
      simp at h; subst h
      have := leaves_rel (ρ := ρ) hl
      simp only [VRel]
      exact ⟨cs, rfl, this.1, this.2⟩
    · simp at h
  · exact (leaf_rel h).1

/-! ### Cells of a value -/

theorem oneCell_cells {v : Value} (h : v.oneCell' = true) : v.cells = #[v] := by cases v <;> simp_all [Value.oneCell', Value.cells]

/-- What is no tuple: its cells. -/
theorem cells_rel {ρ : Inj} {a : AV} {v : Value} (h : VRel ρ a v) (ht : ∀ l, a ≠ .tup l) : VsRel ρ a.cells v.cells.toList ∧ ∀ x ∈ v.cells.toList, x.oneCell' = true := by
  cases a with
  | agg l =>
    simp only [VRel] at h
    obtain ⟨c, rfl, h1, h2⟩ := h
    exact ⟨h1, h2⟩
  | tup l => exact absurd rfl (ht l)
  | raw x =>
    have h0 := h
    simp only [VRel] at h
    obtain ⟨rfl, h2⟩ := h
    rw [oneCell_cells h2]
    exact ⟨.cons h0 .nil, by simpa using h2⟩
  | ptr i off =>
    have h0 := h
    simp only [VRel] at h; obtain ⟨l, _, rfl⟩ := h
    exact ⟨.cons h0 .nil, by simp [Value.cells, Value.oneCell']⟩
  | sl i off len lo ex es =>
    have h0 := h
    simp only [VRel] at h; obtain ⟨l, cap, _, rfl, _⟩ := h
    exact ⟨.cons h0 .nil, by simp [Value.cells, Value.oneCell']⟩
  | sl0 ex =>
    have h0 := h
    simp only [VRel] at h; obtain ⟨l, cap, rfl, _⟩ := h
    exact ⟨.cons h0 .nil, by simp [Value.cells, Value.oneCell']⟩
  | map i =>
    have h0 := h
    simp only [VRel] at h; obtain ⟨l, _, rfl⟩ := h
    exact ⟨.cons h0 .nil, by simp [Value.cells, Value.oneCell']⟩
  | fn f x y =>
    have h0 := h
    simp only [VRel] at h; obtain ⟨_, _, rfl, _⟩ := h
    exact ⟨.cons h0 .nil, by simp [Value.cells, Value.oneCell']⟩
  | iface t x =>
    have h0 := h
    simp only [VRel] at h; obtain ⟨_, rfl, _⟩ := h
    exact ⟨.cons h0 .nil, by simp [Value.cells, Value.oneCell']⟩
  | any =>
    have h0 := h
    simp only [VRel] at h
    rw [oneCell_cells h]
    exact ⟨.cons h0 .nil, by simpa using h⟩

/-! ### Memory -/

def EsRel (ρ : Inj) : List (AV × AV × Nat) → List MapEntry → Prop
  | [], l => l = []
  | (k, v, b) :: es, l => ∃ k' v' l', l = ⟨k', v', b⟩ :: l' ∧ VRel ρ k k' ∧ VRel ρ v v' ∧ EsRel ρ es l'

/-- What is known of a block is so. -/
def Kd.ok (el : TypeId) (l : Loc) (n : Nat) : Kd → Prop
  | .var t => el = t ∧ l.o = 0 ∧ l.n = n
  | .row t => el = t ∧ l.o = 0
  | _ => True

def ORel (ρ : Inj) (w : World) (l : Loc) : AObj → Prop
  | .cells n st t => ∃ c el fr, w.heap[l.b]? = some (.cells c el fr) ∧ c.size = l.n ∧ l.o + n ≤ l.n ∧ (fr = (0, 0) ∨ (st = .str ∧ fr = (l.n, l.n + 1))) ∧ st.ok el l n ∧
      ∀ k a, t.get k = some a → k < n ∧ ∃ v, c[l.o + k]? = some v ∧ VRel ρ a v ∧ v.oneCell' = true
  | .map es clock => ∃ es', w.heap[l.b]? = some (.map es' clock) ∧ EsRel ρ es es'.toList
  | .miter m => ∃ i lm since stepped, m = some i ∧ ρ i = some lm ∧ w.heap[l.b]? = some (.mapIter (some lm.b) since #[] stepped) ∧ l.o = 0

structure HRel (ρ : Inj) (hp : Hp) (w : World) (base : Nat → Prop) : Prop where
  obj : ∀ i o, hp.h.get i = some o → ∃ l, ρ i = some l ∧ base l.b ∧ ORel ρ w l o
  inj : ∀ i j o o' l l', hp.h.get i = some o → hp.h.get j = some o' → ρ i = some l → ρ j = some l' → l.b = l'.b → i = j
  fresh : ∀ i, hp.next ≤ i → ρ i = none
  size : ∀ b, w.heap.size ≤ b → base b

/-- What a step leaves alone. -/
structure Fr (ρ : Inj) (hp : Hp) (w w' : World) : Prop where
  heap : ∀ b, b < w.heap.size → (∀ i o l, hp.h.get i = some o → ρ i = some l → l.b ≠ b) → w'.heap[b]? = w.heap[b]?
  size : w.heap.size ≤ w'.heap.size
  rest : w'.os = w.os ∧ w'.output = w.output ∧ w'.tape = w.tape

theorem Fr.refl (ρ : Inj) (hp : Hp) (w : World) : Fr ρ hp w w := ⟨fun _ _ _ => rfl, Nat.le_refl _, ⟨rfl, rfl, rfl⟩⟩

def ERel (ρ : Inj) (env : Tr AV) (nt : Nat) (tmps : Array Value) : Prop :=
  tmps.size = nt ∧ ∀ t a, env.get t = some a → ∃ v, tmps[t]? = some v ∧ VRel ρ a v

theorem ERel.mono {ρ ρ' : Inj} (h : Ext ρ ρ') {env : Tr AV} {nt : Nat} {tmps : Array Value} (he : ERel ρ env nt tmps) : ERel ρ' env nt tmps :=
  ⟨he.1, fun t a e => let ⟨v, e', hv⟩ := he.2 t a e; ⟨v, e', hv.mono h⟩⟩

theorem EsRel.mono {ρ ρ' : Inj} (h : Ext ρ ρ') : ∀ {es : List (AV × AV × Nat)} {l : List MapEntry}, EsRel ρ es l → EsRel ρ' es l
  | [], _, e => e
  | (k, v, b) :: es, _, e => by
    obtain ⟨k', v', l', rfl, h1, h2, h3⟩ := e
    exact ⟨k', v', l', rfl, h1.mono h, h2.mono h, h3.mono h⟩

theorem ORel.mono {ρ ρ' : Inj} (h : Ext ρ ρ') {w : World} {l : Loc} {o : AObj} (ho : ORel ρ w l o) : ORel ρ' w l o := by
  cases o with
  | cells n st t =>
    obtain ⟨c, el, fr, h1, h2, h3, h4, h6, h5⟩ := ho
    exact ⟨c, el, fr, h1, h2, h3, h4, h6, fun k a e => let ⟨hk, v, e', hv, hc⟩ := h5 k a e; ⟨hk, v, e', hv.mono h, hc⟩⟩
  | map es clock =>
    obtain ⟨es', h1, h2⟩ := ho
    exact ⟨es', h1, h2.mono h⟩
  | miter m =>
    obtain ⟨i, lm, since, stepped, e, hi, hw⟩ := ho
    exact ⟨i, lm, since, stepped, e, h _ _ hi, hw⟩

/-- An object hangs on its block alone. -/
theorem ORel.of_block {ρ : Inj} {w w' : World} {l : Loc} {o : AObj} (h : w'.heap[l.b]? = w.heap[l.b]?) (ho : ORel ρ w l o) : ORel ρ w' l o := by
  cases o with
  | cells n st t =>
    obtain ⟨c, el, fr, h1, h2⟩ := ho
    exact ⟨c, el, fr, h.trans h1, h2⟩
  | map es clock =>
    obtain ⟨es', h1, h2⟩ := ho
    exact ⟨es', h.trans h1, h2⟩
  | miter m =>
    obtain ⟨i, lm, since, stepped, e, hi, hw, h0⟩ := ho
    exact ⟨i, lm, since, stepped, e, hi, h.trans hw, h0⟩

theorem ORel.lt {ρ : Inj} {w : World} {l : Loc} {o : AObj} (ho : ORel ρ w l o) : l.b < w.heap.size := by
  have key : ∀ x : Obj, w.heap[l.b]? = some x → l.b < w.heap.size := fun x hx => by
    rcases Nat.lt_or_ge l.b w.heap.size with h | h
    · exact h
    · simp [Array.getElem?_eq_none h] at hx
  cases o with
  | cells n st t => obtain ⟨c, el, fr, h1, _⟩ := ho; exact key _ h1
  | map es clock => obtain ⟨es', h1, _⟩ := ho; exact key _ h1
  | miter m => obtain ⟨_, _, _, _, _, _, hw, _⟩ := ho; exact key _ hw

theorem HRel.next_none {ρ : Inj} {hp : Hp} {w : World} {base : Nat → Prop} (h : HRel ρ hp w base) {i : Id} (hi : hp.next ≤ i) : hp.h.get i = none := by
  cases e : hp.h.get i with
  | none => rfl
  | some o =>
    obtain ⟨l, hl, _⟩ := h.obj i o e
    rw [h.fresh i hi] at hl; cases hl

theorem HRel.lt_next {ρ : Inj} {hp : Hp} {w : World} {base : Nat → Prop} (h : HRel ρ hp w base) {i : Id} {l : Loc} (hi : ρ i = some l) : i < hp.next := by
  rcases Nat.lt_or_ge i hp.next with h' | h'
  · exact h'
  · rw [h.fresh i h'] at hi; cases hi

/-- Another world whose blocks, as far as they are spoken of, are the same. -/
theorem HRel.of_heap {ρ : Inj} {hp : Hp} {w w' : World} {base : Nat → Prop} (h : HRel ρ hp w base) (hw : w'.heap = w.heap) : HRel ρ hp w' base :=
  ⟨fun i o e => let ⟨l, hl, hb, ho⟩ := h.obj i o e; ⟨l, hl, hb, ho.of_block (by rw [hw])⟩, h.inj, h.fresh, by rw [hw]; exact h.size⟩

/-- Operands. -/
theorem eval_rel {ρ : Inj} {env : Tr AV} {nt : Nat} {a : Act} (he : ERel ρ env nt a.tmps) {x : Operand} {v : AV} (h : eval x env = some v) : VRel ρ v (a.eval x) := by
  cases x with
  | tmp t =>
    obtain ⟨v', e, hv⟩ := he.2 t v h
    have : a.eval (.tmp t) = v' := by simp [Act.eval, e]
    rw [this]; exact hv
  | const c => exact ofConst_rel h
  | global g => simp [eval] at h
  | func f =>
    simp [eval] at h; subst h
    simp [VRel, Act.eval, VsRel]

end Go.Ab
