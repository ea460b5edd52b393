/-
  EACH OPERATION OF THE ABSTRACT MACHINE IS ONE OF THE MODEL's (builtins; calls).
-/
import Derived.Test.YtmnepjoaggdhpabGreatAbS7
set_option linter.unusedVariables false
namespace Go.Ab

section
variable {T : Tab} {base : Nat → Prop} {ρ : Inj} {env : Tr AV} {hp hp' : Hp} {w : World} {ev : Operand → Value} {o : Oper} {v : AV}

/-- What a builtin comes to, as the machine says. -/
def ResB (T : Tab) (base : Nat → Prop) (ρ : Inj) (hp : Hp) (w : World) (s : Sem Value) (v : AV) (hp' : Hp) : Prop :=
  ∃ ρ' v' w', s.run T.P w = .ok v' w' ∧ ExtN hp.next ρ ρ' ∧ HRel ρ' hp' w' base ∧ VRel ρ' v v' ∧ Fr ρ hp w w'

theorem ResB.pure {s : Sem Value} {v' : Value} (hH : HRel ρ hp w base) (h : s.run T.P w = .ok v' w) (hv : VRel ρ v v') : ResB T base ρ hp w s v hp := ⟨ρ, v', w, h, ExtN.refl _ _, hH, hv, Fr.refl _ _ _⟩

theorem size_data (s : ByteArray) : s.data.toList.length = s.size := by
  show s.data.toList.length = s.data.size
  exact Array.length_toList

theorem lenS_rel {a : AV} {va : Value} {n : Nat} (hv : VRel ρ a va) (h : lenS a = some n) : ∃ p c, va = .slice p n c := by
  unfold lenS at h
  split at h
  · cases h
    simp only [VRel] at hv
    obtain ⟨l, cap, _, rfl, _⟩ := hv
    exact ⟨_, _, rfl⟩
  · cases h
    simp only [VRel] at hv
    obtain ⟨a, cap, rfl, _⟩ := hv
    exact ⟨_, _, rfl⟩
  · cases h
    exact ⟨_, _, raw_rel hv⟩
  · cases h

theorem lenA_run {a : AV} {va : Value} {n : Nat} (hv : VRel ρ a va) (h : lenA a = some n) : (Builtin.lenOf va).run T.P w = .ok n w := by
  unfold lenA at h
  split at h
  · rename_i s
    cases h
    have e := raw_rel hv
    subst e
    rw [size_data]; rfl
  · obtain ⟨p, c, rfl⟩ := lenS_rel hv h
    rfl

theorem EsRel.length {ρ : Inj} : ∀ {es : List (AV × AV × Nat)} {l : List MapEntry}, EsRel ρ es l → l.length = es.length
  | [], _, h => by simp only [EsRel] at h; rw [h]; rfl
  | (k, v, b) :: es, _, h => by
    simp only [EsRel] at h
    obtain ⟨k', v', l', rfl, _, _, h3⟩ := h
    simp [h3.length]

theorem heap_map {hp : Hp} {w : World} {base : Nat → Prop} (hH : HRel ρ hp w base) {i : Id} {es : List (AV × AV × Nat)} {clock : Nat} (h : hp.h.get i = some (.map es clock)) :
    ∃ l es', ρ i = some l ∧ w.heap[l.b]? = some (.map es' clock) ∧ EsRel ρ es es'.toList := by
  obtain ⟨l, hl, _, es', h1, h2⟩ := hH.obj i _ h
  exact ⟨l, es', hl, h1, h2⟩

theorem getObj_map {P : Program} {b : Nat} {es : Array MapEntry} {clock : Nat} (h : w.heap[b]? = some (.map es clock)) : (getObj b).run P w = .ok (.map es clock) w := by
  simp only [getObj, Sem.run]
  rw [h]

structure ReadsToB (T : Tab) (base : Nat → Prop) (ρ : Inj) (hp : Hp) (w : World) (s : Sem Value) (v : AV) (hp' : Hp) : Prop where
  same : hp' = hp
  heap : HRel ρ hp w base
  reads : ∃ v', s.run T.P w = .ok v' w ∧ VRel ρ v v'

theorem ReadsToB.pure {s : Sem Value} {v' : Value} (hH : HRel ρ hp w base) (h : s.run T.P w = .ok v' w) (hv : VRel ρ v v') : ReadsToB T base ρ hp w s v hp := ⟨rfl, hH, v', h, hv⟩

theorem ReadsToB.res {s : Sem Value} (h : ReadsToB T base ρ hp w s v hp') : ResB T base ρ hp w s v hp' := by
  obtain ⟨rfl, hH, v', h1, h2⟩ := h
  exact .pure hH h1 h2

theorem len_reads {tys : Array TypeId} {ty : TypeId} {args : List AV} {vargs : Array Value} (hT : TabOk T) (hr : VsRel ρ args vargs.toList) (hH : HRel ρ hp w base)
    (h : opLen tys.toList args T hp = some (.val v hp')) : ReadsToB T base ρ hp w (Builtin.len_ tys ty vargs) v hp' := by
  unfold opLen at h
  split at h
  · rename_i x t htys
    obtain ⟨vx, vs, e1, hx, h0⟩ := hr.cons_inv
    rw [VsRel.nil_iff] at h0
    subst h0
    have ev : vargs = #[vx] := by apply Array.toList_inj.1; rw [e1]
    have et : tys = #[t] := by apply Array.toList_inj.1; rw [htys]
    subst ev; subst et
    split at h
    · cases h
    · rename_i ti hti
      have hu := (hT.ty t ti hti).run_und w
      split at h
      · rename_i kt et hund
        rw [hund] at hu
        split at h
        · rename_i i
          split at h
          · rename_i es clock hi
            rw [lenK_eq] at h
            simp only [Option.some.injEq, ARes.val.injEq] at h
            obtain ⟨rfl, rfl⟩ := h
            obtain ⟨l, es', hl, hw, hes⟩ := heap_map hH hi
            simp only [VRel] at hx
            obtain ⟨l', hl', rfl⟩ := hx
            rw [hl] at hl'; cases hl'
            have hlen := hes.length
            have hsz : es'.size = es.length := by
              have : es'.toList.length = es'.size := Array.length_toList
              omega
            exact .pure hH (v' := .int .i64 (es.length : Int)) (by simp [Builtin.len_, hu, getObj_map hw, goInt, hsz]) (raw_mk rfl)
          · cases h
        · cases h
      · rename_i e hund
        rw [hund] at hu
        split at h
        · rename_i n hn
          simp only [forceN_eq, Option.some.injEq, ARes.val.injEq] at h
          obtain ⟨rfl, rfl⟩ := h
          obtain ⟨p, c, rfl⟩ := lenS_rel hx hn
          exact .pure hH (v' := .int .i64 (n : Int)) (by simp [Builtin.len_, hu, goInt]) (raw_mk rfl)
        · cases h
      · rename_i hund
        rw [hund] at hu
        split at h
        · rename_i s
          simp only [forceN_eq, Option.some.injEq, ARes.val.injEq] at h
          obtain ⟨rfl, rfl⟩ := h
          have e := raw_rel hx
          subst e
          rw [size_data]
          exact .pure hH (v' := .int .i64 (s.size : Int)) (by simp [Builtin.len_, hu, goInt]) (raw_mk rfl)
        · cases h
      · cases h
  · cases h


theorem len_sound {tys : Array TypeId} {ty : TypeId} {args : List AV} {vargs : Array Value} (hT : TabOk T) (hr : VsRel ρ args vargs.toList) (hH : HRel ρ hp w base)
    (h : opLen tys.toList args T hp = some (.val v hp')) : ResB T base ρ hp w (Builtin.len_ tys ty vargs) v hp' := (len_reads hT hr hH h).res

end
end Go.Ab
