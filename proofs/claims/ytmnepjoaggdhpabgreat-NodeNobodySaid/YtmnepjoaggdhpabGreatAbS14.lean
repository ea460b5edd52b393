/-
  EACH OPERATION OF THE ABSTRACT MACHINE IS ONE OF THE MODEL's (unsafe.SliceData, unsafe.String).
-/
import Derived.Lib.UnsafeStr
import Derived.Test.YtmnepjoaggdhpabGreatAbS12
set_option linter.unusedVariables false
namespace Go.Ab

section
variable {T : Tab} {base : Nat → Prop} {ρ : Inj} {env : Tr AV} {hp hp' : Hp} {w : World} {ev : Operand → Value} {o : Oper} {v : AV}

theorem bytesOf_rel : ∀ {l : List AV} {bs : List UInt8} {vs : List Value}, bytesOf l = some bs → VsRel ρ l vs → bs.length = l.length ∧ ∀ (j : Nat) (x : UInt8), bs[j]? = some x → vs[j]? = some (.int .u8 x.toNat)
  | [], bs, vs, h, hr => by
    simp [bytesOf] at h; subst h
    exact ⟨rfl, fun j x h => by simp at h⟩
  | a :: l, bs, vs, h, hr => by
    unfold bytesOf at h
    split at h
    · rename_i e; cases e
    · rename_i n l' e
      cases e
      split at h
      · rename_i hlt
        rw [blt_iff] at hlt
        have hlt' := of_decide_eq_true hlt
        split at h
        · rename_i bs' hb
          cases h
          obtain ⟨v0, vs', rfl, h0, h1⟩ := hr.cons_inv
          have e0 := raw_rel h0
          subst e0
          obtain ⟨h2, h3⟩ := bytesOf_rel hb h1
          refine ⟨by simp [h2], fun j x hj => ?_⟩
          cases j with
          | zero =>
            simp at hj; subst hj
            have : (UInt8.ofNat n).toNat = n := by simp; omega
            simp [this]
          | succ j => simp at hj ⊢; exact h3 j x hj
        · cases h
      · cases h
    · cases h

theorem freeze_other {w : World} {a : Addr} {n b : Nat} (h : b ≠ a.block) : (w.freeze a n).heap[b]? = w.heap[b]? := by
  unfold World.freeze
  split
  · rfl
  · simp [Array.getElem?_modify, Ne.symm h]

theorem freeze_size {w : World} {a : Addr} {n : Nat} : (w.freeze a n).heap.size = w.heap.size := by
  unfold World.freeze
  split
  · rfl
  · simp

theorem freeze_rest {w : World} {a : Addr} {n : Nat} : (w.freeze a n).os = w.os ∧ (w.freeze a n).output = w.output ∧ (w.freeze a n).tape = w.tape := by
  unfold World.freeze
  split <;> exact ⟨rfl, rfl, rfl⟩

/-- A block that is not spoken of any more turns. -/
theorem HRel.lost {w' : World} (hH : HRel ρ hp w base) {i : Id} {o : AObj} {l : Loc} (hi : hp.h.get i = some o) (hl : ρ i = some l) (hw : ∀ b, b ≠ l.b → w'.heap[b]? = w.heap[b]?) (hs : w.heap.size ≤ w'.heap.size)
    (hrest : w'.os = w.os ∧ w'.output = w.output ∧ w'.tape = w.tape) : HRel ρ ⟨hp.h.drop i, hp.next⟩ w' base ∧ Fr ρ hp w w' := by
  refine ⟨⟨fun j p hj => ?_, fun j k p q m n hj hk hm hn e => ?_, hH.fresh, fun b hb => hH.size b (Nat.le_trans hs hb)⟩, ⟨fun b _ hne => hw b (fun e => hne i o l hi hl e.symm), hs, hrest⟩⟩
  · have hj' : (hp.h.drop i).get j = some p := hj
    rw [Tr.get_drop] at hj'
    by_cases e : j = i
    · rw [if_pos e] at hj'; cases hj'
    · rw [if_neg e] at hj'
      obtain ⟨m, hm, hb, hp'⟩ := hH.obj j p hj'
      exact ⟨m, hm, hb, hp'.of_block (hw m.b fun eb => e (hH.inj j i _ _ _ _ hj' hi hm hl eb))⟩
  · have key : ∀ {x : Id} {r : AObj}, (hp.h.drop i).get x = some r → hp.h.get x = some r := by
      intro x r hx
      rw [Tr.get_drop] at hx
      by_cases e : x = i
      · rw [if_pos e] at hx; cases hx
      · rwa [if_neg e] at hx
    exact hH.inj j k _ _ _ _ (key hj) (key hk) hm hn e

theorem sliceData_sound {tys : Array TypeId} {ty : TypeId} {args : List AV} {vargs : Array Value} (hr : VsRel ρ args vargs.toList) (hH : HRel ρ hp w base)
    (h : (match args with
      | [.sl i off _ (_ + 1) _ _] => some (ARes.val (.ptr i off) hp)
      | [.raw (.slice none 0 0)] => some (.val (.raw (.pointer none)) hp)
      | _ => none) = some (.val v hp')) : ResB T base ρ hp w (Builtin.unsafeSliceData_ tys ty vargs) v hp' := by
  split at h
  · rename_i i off len lo ex es
    obtain ⟨vs, l, e1, hx, h0⟩ := hr.cons_inv
    rw [VsRel.nil_iff] at h0
    subst h0
    have e : vargs = #[vs] := Array.ext' e1
    subst e
    simp only [VRel] at hx
    obtain ⟨lc, cap, hl, rfl, h1, h2, _, _⟩ := hx
    simp only [Option.some.injEq, ARes.val.injEq] at h
    obtain ⟨rfl, rfl⟩ := h
    exact .pure hH (Lib.run_unsafeSliceData_row w tys ty _ _ _ (by omega)) (by simp only [VRel]; exact ⟨lc, hl, rfl⟩)
  · obtain ⟨vs, l, e1, hx, h0⟩ := hr.cons_inv
    rw [VsRel.nil_iff] at h0
    subst h0
    have e : vargs = #[vs] := Array.ext' e1
    subst e
    have e2 := raw_rel hx
    subst e2
    simp only [Option.some.injEq, ARes.val.injEq] at h
    obtain ⟨rfl, rfl⟩ := h
    exact .pure hH (Lib.run_unsafeSliceData_nil w tys ty 0 0) (raw_mk rfl)
  · cases h

theorem unsafeString_sound {tys : Array TypeId} {ty : TypeId} {args : List AV} {vargs : Array Value} (hT : TabOk T) (hr : VsRel ρ args vargs.toList) (hH : HRel ρ hp w base)
    (h : opUnsafeString tys.toList args T hp = some (.val v hp')) : ResB T base ρ hp w (Builtin.unsafeString_ tys ty vargs) v hp' := by
  unfold opUnsafeString at h
  split at h
  · rename_i p n pt it htys
    obtain ⟨vp, vn, rfl, hx, hy⟩ := two_args hr rfl
    have et : tys = #[pt, it] := by apply Array.toList_inj.1; rw [htys]
    subst et
    have en := raw_rel hy
    subst en
    split at h
    · split at h
      · have ep := raw_rel hx
        subst ep
        simp only [Option.some.injEq, ARes.val.injEq] at h
        obtain ⟨rfl, rfl⟩ := h
        exact .pure hH (Lib.run_unsafeString_none w pt it ty none) (raw_mk rfl)
      · rename_i i off
        simp only [VRel] at hx
        obtain ⟨l, hl, rfl⟩ := hx
        simp only [Option.some.injEq, ARes.val.injEq] at h
        obtain ⟨rfl, rfl⟩ := h
        exact .pure hH (Lib.run_unsafeString_none w pt it ty _) (raw_mk rfl)
      · cases h
    · rename_i n
      split at h
      · rename_i i
        split at h
        · rename_i c e t tp hi htp
          split at h
          · rename_i e' hund
            split at h
            · rename_i te he hte
              split at h
              · rename_i l hsz hc hmax hread
                split at h
                · rename_i bs hbs
                  rw [Tr.del_eq] at h
                  simp only [Option.some.injEq, ARes.val.injEq] at h
                  obtain ⟨rfl, rfl⟩ := h
                  obtain ⟨lc, cc, el, fr, hl, _, h1, h2, h3, h4, h6, h5⟩ := heap_kind hH hi
                  obtain ⟨rfl, ho⟩ := h6
                  have he' := Nat.eq_of_beq_eq_true he
                  subst he'
                  have hsz' := Nat.eq_of_beq_eq_true hsz
                  have hc' := Nat.le_of_ble_eq_true hc
                  have hmax' := Nat.le_of_ble_eq_true hmax
                  obtain ⟨j, hj, hjs, _⟩ := (hT.ty _ te hte).info
                  obtain ⟨vs, hvl, hvr, _, hvg, _⟩ := readCells_run (P := T.P) h1 h5 hread
                  obtain ⟨hbl, hbv⟩ := bytesOf_rel hbs hvr
                  have hll : l.length = n + 1 := (readCells_get hread).1
                  have hbn : bs.length = n + 1 := by omega
                  have hu := (hT.ty pt tp htp).und
                  rw [hund] at hu
                  have hsh : w.shape? lc.b = some (el, cc.size) := by simp [World.shape?, h1]
                  simp only [VRel] at hx
                  obtain ⟨l', hl', rfl⟩ := hx
                  rw [hl] at hl'; cases hl'
                  have hrun := Lib.run_unsafeString_row w pt it ty el hu (by simp [Program.cellsOf, hj, hjs, hsz']) lc.b cc.size hsh bs (by intro e; subst e; simp at hbn) (by omega) (by omega) (fun j x hjx => by
                    have := hvg j _ (hbv j x hjx)
                    rw [ho] at this
                    simp only [Nat.zero_add] at this
                    have ea : ((⟨lc.b, 0, none⟩ : Addr).add j) = ⟨lc.b, j, none⟩ := by
                      unfold Addr.add
                      by_cases h0 : j = 0
                      · subst h0; simp
                      · simp [h0]
                    rw [ea]
                    simp [World.cell?, h1, this])
                  rw [hbn] at hrun
                  have haddr : (⟨lc.b, lc.o + 0, none⟩ : Addr) = ⟨lc.b, 0, none⟩ := by rw [ho]
                  rw [haddr]
                  obtain ⟨g1, g2⟩ := hH.lost (w' := w.freeze ⟨lc.b, 0, none⟩ (n + 1)) hi hl (fun b hb => freeze_other hb) (by rw [freeze_size]; exact Nat.le_refl _) freeze_rest
                  exact ⟨ρ, _, _, hrun, ExtN.refl _ _, g1, raw_mk rfl, g2⟩
                · cases h
              · cases h
            · cases h
          · cases h
        · cases h
      · cases h
  · cases h

end
end Go.Ab
