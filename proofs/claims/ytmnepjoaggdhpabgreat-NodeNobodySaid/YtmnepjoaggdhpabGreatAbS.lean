/-
  EACH OPERATION OF THE ABSTRACT MACHINE IS ONE OF THE MODEL's (the first part: what only computes; loads).
-/
import Derived.Test.YtmnepjoaggdhpabGreatAbR
import Derived.Laws.Entries
set_option linter.unusedVariables false
namespace Go.Ab

def _root_.Go.Next.yields : Next → Option Value
  | .value v => some v
  | .skip => some undef
  | _ => none

def isAggD : TypeDesc → Bool
  | .struct _ => true
  | .array _ _ => true
  | _ => false

/-- Equality on a type is that of its plain parts. -/
structure PlainT (P : Program) (t : TypeId) (n : Nat) : Prop where
  guard : P.eqGuardType P.depth t = false
  eq : ∀ (as bs : List AV) (xs ys : Array Value) (r : Bool) (ρ : Inj) (w : World), as.length = n → keysEq as bs = some r → VsRel ρ as xs.toList → VsRel ρ bs ys.toList → (Op.equal t (.agg xs) (.agg ys)).run P w = .ok r w
  key : ∀ (as bs : List AV) (xs : Array Value) (r : Bool) (ρ : Inj) (w : World) (e : Bool), as.length = n → keysEq as bs = some r → VsRel ρ as xs.toList → (Instr.checkKey e 10000 t (.agg xs)).run P w = .ok () w

structure TyOk (P : Program) (t : TypeId) (x : TyI) : Prop where
  und : P.underlying t = some x.und
  info : ∃ i, P.info? t = some i ∧ i.size = x.size ∧ i.bytes = x.bytes ∧ (∀ z, x.zero = some z → ∃ v, i.zero = some v ∧ leaves v.cells.toList = some z ∧ (x.agg = true → ∃ c, v = .agg c) ∧ (x.agg = false → v.oneCell' = true))
  agg : x.agg = isAggD x.und
  plain : x.plain = true → PlainT P t x.size

structure TabOk (T : Tab) : Prop where
  fn : ∀ i f, T.fns.get i = some f → T.P.funcs[i]? = some f ∧ f.name ≠ "runtime.NumGoroutine"
  ty : ∀ t x, T.tys.get t = some x → TyOk T.P t x
  mixed : T.P.follows .mixedOrders = true
  ext : ∀ f, T.ext f = true → ∃ fn, T.P.funcs[f]? = some fn ∧ (fn.name == "runtime.NumGoroutine") = false ∧ fn.body.isNone = true ∧ Extern.findNext fn = none ∧ Extern.find fn = some Extern.AbiNoEscape.same

section
variable {P : Program} {t : TypeId} {x : TyI}

theorem TyOk.run_und (h : TyOk P t x) (w : World) : (underlying t).run P w = .ok x.und w := by
  simp [underlying, h.und]

theorem TyOk.run_info (h : TyOk P t x) (w : World) : ∃ i, (typeInfo t).run P w = .ok i w ∧ i.size = x.size ∧ i.bytes = x.bytes ∧ (∀ z, x.zero = some z → ∃ v, i.zero = some v ∧ leaves v.cells.toList = some z ∧ (x.agg = true → ∃ c, v = .agg c) ∧ (x.agg = false → v.oneCell' = true)) := by
  obtain ⟨i, hi, h1⟩ := h.info
  exact ⟨i, by simp [typeInfo, hi], h1⟩

theorem TyOk.run_size (h : TyOk P t x) (w : World) : (sizeOf t).run P w = .ok x.size w := by
  obtain ⟨i, hi, h1, _⟩ := h.run_info w
  simp [sizeOf, hi, h1]

theorem TyOk.run_agg (h : TyOk P t x) (w : World) : (isAgg t).run P w = .ok x.agg w := by
  rw [h.agg]
  simp only [isAgg, Sem.run_bind, h.run_und, Result.andThen_ok]
  cases x.und <;> rfl

theorem TyOk.run_zero (h : TyOk P t x) (w : World) {z : List AV} (hz : x.zero = some z) (ρ : Inj) : ∃ v, (zeroValue t).run P w = .ok v w ∧ VsRel ρ z v.cells.toList ∧ (∀ y ∈ v.cells.toList, y.oneCell' = true) := by
  obtain ⟨i, hi, _, _, h3⟩ := h.run_info w
  obtain ⟨v, hv, hl, _⟩ := h3 z hz
  have := leaves_rel (ρ := ρ) hl
  exact ⟨v, by simp [zeroValue, hi, hv], this.1, this.2⟩
end

/-- What the model's operation comes to, as the machine says. -/
def Res (T : Tab) (base : Nat → Prop) (ρ : Inj) (hp : Hp) (w : World) (s : Sem Next) (v : AV) (hp' : Hp) : Prop :=
  ∃ ρ' n v' w', s.run T.P w = .ok n w' ∧ n.yields = some v' ∧ ExtN hp.next ρ ρ' ∧ HRel ρ' hp' w' base ∧ VRel ρ' v v' ∧ Fr ρ hp w w'

theorem Res.pure {T : Tab} {base : Nat → Prop} {ρ : Inj} {hp : Hp} {w : World} {s : Sem Next} {v : AV} {v' : Value} (hH : HRel ρ hp w base) (h : s.run T.P w = .ok (.value v') w) (hv : VRel ρ v v') :
    Res T base ρ hp w s v hp := ⟨ρ, _, v', w, h, rfl, ExtN.refl _ _, hH, hv, Fr.refl _ _ _⟩

/-- What only reads: it leaves the world as it is. -/
structure ReadsTo (T : Tab) (base : Nat → Prop) (ρ : Inj) (hp : Hp) (w : World) (s : Sem Next) (v : AV) (hp' : Hp) : Prop where
  same : hp' = hp
  heap : HRel ρ hp w base
  reads : ∃ v', s.run T.P w = .ok (.value v') w ∧ VRel ρ v v'

theorem ReadsTo.pure {T : Tab} {base : Nat → Prop} {ρ : Inj} {hp : Hp} {w : World} {s : Sem Next} {v : AV} {v' : Value} (hH : HRel ρ hp w base) (h : s.run T.P w = .ok (.value v') w) (hv : VRel ρ v v') :
    ReadsTo T base ρ hp w s v hp := ⟨rfl, hH, v', h, hv⟩

theorem ReadsTo.res {T : Tab} {base : Nat → Prop} {ρ : Inj} {hp hp' : Hp} {w : World} {s : Sem Next} {v : AV} (h : ReadsTo T base ρ hp w s v hp') : Res T base ρ hp w s v hp' := by
  obtain ⟨rfl, hH, v', h1, h2⟩ := h
  exact .pure hH h1 h2

/-- The operands' values stand for one another. -/
def Ops (ρ : Inj) (env : Tr AV) (ev : Operand → Value) (l : List Operand) : Prop := ∀ x ∈ l, ∀ v, eval x env = some v → VRel ρ v (ev x)

section
variable {T : Tab} {base : Nat → Prop} {ρ : Inj} {env : Tr AV} {hp hp' : Hp} {w : World} {ev : Operand → Value} {o : Oper} {v : AV}

theorem move_run (x : Operand) (ho : o.op = .move x ∨ o.op = .assign x) : (execOp ev o).run T.P w = .ok (.value (ev x)) w := by
  rcases ho with ho | ho <;> simp [execOp, ho]

theorem move_sound {x : Operand} (ho : o.op = .move x ∨ o.op = .assign x) (hev : Ops ρ env ev [x]) (hH : HRel ρ hp w base)
    (h : opMove x T env hp = some (.val v hp')) : Res T base ρ hp w (execOp ev o) v hp' := by
  unfold opMove at h
  split at h
  · rename_i a ha
    simp at h; obtain ⟨rfl, rfl⟩ := h
    exact .pure hH (move_run x ho) (hev x (by simp) _ ha)
  · simp at h

theorem opMove_call {x : Operand} {f : FuncId} {args : List AV} : opMove x T env hp ≠ some (.call f args) := by
  unfold opMove; split <;> simp

theorem pick_sound {c a b : Operand} (ho : o.op = .pick c a b) (hev : Ops ρ env ev [c, a, b]) (hH : HRel ρ hp w base)
    (h : opPick c a b T env hp = some (.val v hp')) : Res T base ρ hp w (execOp ev o) v hp' := by
  unfold opPick at h
  split at h
  · rename_i hc
    have hc' := hev c (by simp) _ hc
    simp only [VRel] at hc'
    unfold opMove at h
    split at h
    · rename_i a' ha
      simp at h; obtain ⟨rfl, rfl⟩ := h
      exact .pure hH (by simp [execOp, ho, hc'.1, asBool]) (hev a (by simp) _ ha)
    · simp at h
  · rename_i hc
    have hc' := hev c (by simp) _ hc
    simp only [VRel] at hc'
    unfold opMove at h
    split at h
    · rename_i a' ha
      simp at h; obtain ⟨rfl, rfl⟩ := h
      exact .pure hH (by simp [execOp, ho, hc'.1, asBool]) (hev b (by simp) _ ha)
    · simp at h
  · simp at h

theorem nilCheck_sound {x : Operand} (ho : o.op = .nilCheck x) (hev : Ops ρ env ev [x]) (hH : HRel ρ hp w base)
    (h : opNilCheck x T env hp = some (.val v hp')) : Res T base ρ hp w (execOp ev o) v hp' := by
  unfold opNilCheck at h
  split at h
  · rename_i i off hx
    simp at h; obtain ⟨rfl, rfl⟩ := h
    have h1 := hev x (by simp) _ hx
    have h2 := h1
    simp only [VRel] at h1
    obtain ⟨l, _, e⟩ := h1
    exact .pure hH (by simp [execOp, ho, e]; rfl) (by rw [← e]; exact h2)
  · rename_i f a b hx
    simp at h; obtain ⟨rfl, rfl⟩ := h
    have h1 := hev x (by simp) _ hx
    have h2 := h1
    simp only [VRel] at h1
    obtain ⟨a', b', e, _, _⟩ := h1
    exact .pure hH (by simp [execOp, ho, e]; rfl) (by rw [← e]; exact h2)
  · simp at h

/-! ### Integers, strings -/

theorem blt_iff (a b : Nat) : blt a b = decide (a < b) := by
  unfold blt
  rw [Bool.eq_iff_iff]
  simp [Nat.ble_eq, Nat.succ_le_iff]

theorem intEq_eq (a b : Int) : intEq a b = decide (a = b) := by
  cases a with
  | ofNat m =>
    cases b with
    | ofNat n =>
      simp only [intEq]
      rw [Bool.eq_iff_iff, Nat.beq_eq]
      simp; omega
    | negSucc n => simp [intEq]
  | negSucc m =>
    cases b with
    | ofNat n => simp [intEq]
    | negSucc n =>
      simp only [intEq]
      rw [Bool.eq_iff_iff, Nat.beq_eq]
      simp

theorem intLt_eq (a b : Int) : intLt a b = decide (a < b) := by
  cases a <;> cases b <;> simp [intLt, blt_iff] <;> omega

theorem kindEq_iff (a b : IntKind) : kindEq a b = decide (a = b) := by
  cases a <;> cases b <;> rfl

theorem wrapF_eq (k : IntKind) (n : Int) : wrapF k n = k.wrap n := by
  unfold wrapF
  split
  · rename_i m
    split
    · rename_i hm
      rw [blt_iff] at hm
      have hm' : m < 9223372036854775808 := of_decide_eq_true hm
      have : (2 : Int) ^ IntKind.i64.bits = 18446744073709551616 := rfl
      unfold IntKind.wrap
      have h63 : (2 : Int) ^ (IntKind.i64.bits - 1) = 9223372036854775808 := rfl
      rw [this, h63]
      have e : (Int.ofNat m) % 18446744073709551616 = Int.ofNat m := by
        apply Int.emod_eq_of_lt
        · exact Int.natCast_nonneg m
        · show (m : Int) < _; omega
      simp only [e]
      have : ¬ ((Int.ofNat m) ≥ 9223372036854775808) := by show ¬ ((m : Int) ≥ _); omega
      rw [if_neg (by simp only [this]; simp)]
    · rfl
  · rfl

theorem u8Eq_eq : ∀ (a b : List UInt8), u8Eq a b = (a == b)
  | [], [] => rfl
  | [], _ :: _ => rfl
  | _ :: _, [] => rfl
  | a :: as, b :: bs => by
    simp only [u8Eq]
    by_cases e : a = b
    · subst e
      simp [Nat.beq_refl, u8Eq_eq as bs]
    · have : Nat.beq a.toNat b.toNat = false := by
        rw [Bool.eq_false_iff]
        intro h
        exact e (UInt8.toNat_inj.1 (Nat.eq_of_beq_eq_true h))
      rw [this]
      simp [e]

theorem strEq_eq (a b : ByteArray) : strEq a b = (a.toList == b.toList) := by
  rw [strEq, u8Eq_eq, ByteArray.toList_eq, ByteArray.toList_eq]

end
end Go.Ab
