/-
  EACH OPERATION OF THE ABSTRACT MACHINE IS ONE OF THE MODEL's (binary operations joined; parts, addresses, slices).
-/
import Derived.Test.YtmnepjoaggdhpabGreatAbS2
set_option linter.unusedVariables false
namespace Go.Ab

section
variable {T : Tab} {base : Nat → Prop} {ρ : Inj} {env : Tr AV} {hp hp' : Hp} {w : World} {ev : Operand → Value} {o : Oper} {v : AV}

theorem bin_agg {op : BinOp} {t yt : TypeId} {x y : Operand} {as bs : List AV} {ti : TyI} {r : Bool} (hT : TabOk T) (hti : T.tys.get t = some ti) (hpl : (ti.plain && Nat.beq as.length ti.size) = true) (ho : o.op = .binOp op t x y yt)
    (hx : VRel ρ (.agg as) (ev x)) (hy : VRel ρ (.agg bs) (ev y)) (hH : HRel ρ hp w base) (hop : op = .eql ∨ op = .neq) (h : keysEq as bs = some r) :
    ReadsTo T base ρ hp w (execOp ev o) (.raw (.bool (if op = .eql then r else !r))) hp := by
  rw [Bool.and_eq_true] at hpl
  have hp := (hT.ty t ti hti).plain hpl.1
  have hl := Nat.eq_of_beq_eq_true hpl.2
  simp only [VRel] at hx hy
  obtain ⟨xs, e1, h1, _⟩ := hx
  obtain ⟨ys, e2, h2, _⟩ := hy
  refine bin_of_equal ho hH hop ?_ ?_ (by rw [e1]; simp) (by rw [e1]; simp) (by rw [e1]; simp) (by rw [e1]; simp)
  · rw [e1, e2]
    unfold eqGuard
    rcases hop with rfl | rfl <;> simp [hp.guard]
  · rw [e1, e2]
    exact hp.eq as bs xs ys r ρ w hl h h1 h2

theorem bin_reads {op : BinOp} {t yt : TypeId} {x y : Operand} (hT : TabOk T) (ho : o.op = .binOp op t x y yt) (hev : Ops ρ env ev [x, y]) (hH : HRel ρ hp w base)
    (h : opBin op t x y T env hp = some (.val v hp')) : ReadsTo T base ρ hp w (execOp ev o) v hp' := by
  unfold opBin at h
  split at h
  · rename_i k a k' b hx hy
    exact bin_int ho (hev x (by simp) _ hx) (hev y (by simp) _ hy) hH h
  · rename_i a b hx hy
    exact bin_str ho (hev x (by simp) _ hx) (hev y (by simp) _ hy) hH h
  · rename_i a b hx hy
    have e1 := raw_rel (hev x (by simp) _ hx)
    have e2 := raw_rel (hev y (by simp) _ hy)
    split at h
    · rename_i ti hti
      split at h
      · rename_i hund
        simp only [retB, forceB_eq, Option.some.injEq, ARes.val.injEq] at h
        obtain ⟨rfl, rfl⟩ := h
        exact bin_of_equal ho hH (.inl rfl) (eqGuard_plain (by rw [e1]; rfl) (by rw [e1]; simp)) (by rw [e1, e2]; exact equal_bool (hT.ty t ti hti) hund a b w) (by rw [e1]; simp) (by rw [e1]; simp) (by rw [e1]; simp) (by rw [e1]; simp)
      · rename_i hund
        simp only [retB, forceB_eq, Option.some.injEq, ARes.val.injEq] at h
        obtain ⟨rfl, rfl⟩ := h
        exact bin_of_equal (op := .neq) ho hH (.inr rfl) (eqGuard_plain (by rw [e1]; rfl) (by rw [e1]; simp)) (by rw [e1, e2]; exact equal_bool (hT.ty t ti hti) hund a b w) (by rw [e1]; simp) (by rw [e1]; simp) (by rw [e1]; simp) (by rw [e1]; simp)
      · cases h
    · cases h
  · rename_i k a b k' c d hx hy
    have h1 := hev x (by simp) _ hx
    have h2 := hev y (by simp) _ hy
    split at h
    · split at h
      · simp only [retB, forceB_eq, Option.some.injEq, ARes.val.injEq] at h
        obtain ⟨rfl, rfl⟩ := h
        exact bin_complex ho h1 h2 hH (.inl ⟨rfl, rfl⟩)
      · cases h
    · split at h
      · simp only [retB, forceB_eq, Option.some.injEq, ARes.val.injEq] at h
        obtain ⟨rfl, rfl⟩ := h
        exact bin_complex ho h1 h2 hH (.inr ⟨rfl, rfl⟩)
      · cases h
    · cases h
  · rename_i as bs hx hy
    split at h
    · rename_i ti hti
      split at h
      · rename_i r hpl hk
        simp only [retB, forceB_eq, Option.some.injEq, ARes.val.injEq] at h
        obtain ⟨rfl, rfl⟩ := h
        exact bin_agg hT hti hpl ho (hev x (by simp) _ hx) (hev y (by simp) _ hy) hH (.inl rfl) hk
      · rename_i r hpl hk
        simp only [retB, forceB_eq, Option.some.injEq, ARes.val.injEq] at h
        obtain ⟨rfl, rfl⟩ := h
        exact bin_agg (op := .neq) hT hti hpl ho (hev x (by simp) _ hx) (hev y (by simp) _ hy) hH (.inr rfl) hk
      · cases h
    · cases h
  · rename_i a b _ _ _ _ _ hx hy
    split at h
    · rename_i ti hti
      split at h
      · rename_i r hr
        simp only [retB, forceB_eq, Option.some.injEq, ARes.val.injEq] at h
        obtain ⟨rfl, rfl⟩ := h
        exact bin_ref hT hti ho (hev x (by simp) _ hx) (hev y (by simp) _ hy) hH (.inl rfl) hr
      · rename_i r hr
        simp only [retB, forceB_eq, Option.some.injEq, ARes.val.injEq] at h
        obtain ⟨rfl, rfl⟩ := h
        exact bin_ref (op := .neq) hT hti ho (hev x (by simp) _ hx) (hev y (by simp) _ hy) hH (.inr rfl) hr
      · cases h
    · cases h
  · cases h

theorem bin_sound {op : BinOp} {t yt : TypeId} {x y : Operand} (hT : TabOk T) (ho : o.op = .binOp op t x y yt) (hev : Ops ρ env ev [x, y]) (hH : HRel ρ hp w base)
    (h : opBin op t x y T env hp = some (.val v hp')) : Res T base ρ hp w (execOp ev o) v hp' := (bin_reads hT ho hev hH h).res

theorem un_sound {op : UnOp} {t : TypeId} {x : Operand} (ho : o.op = .unOp op t x) (hev : Ops ρ env ev [x]) (hH : HRel ρ hp w base)
    (h : opUn op x T env hp = some (.val v hp')) : Res T base ρ hp w (execOp ev o) v hp' := by
  unfold opUn at h
  split at h
  · rename_i b hx
    have e := raw_rel (hev x (by simp) _ hx)
    split at h
    · simp only [retB, forceB_eq, Option.some.injEq, ARes.val.injEq] at h
      obtain ⟨rfl, rfl⟩ := h
      exact .pure hH (v' := .bool !b) (by simp [execOp, ho, e, Op.unary]) (raw_mk rfl)
    · cases h
  · rename_i k n hx
    have e := raw_rel (hev x (by simp) _ hx)
    split at h
    · simp only [retI, forceI_eq, Option.some.injEq, ARes.val.injEq] at h
      obtain ⟨rfl, rfl⟩ := h
      have hn : Int.sub 0 n = -n := by show (0 : Int) - n = -n; omega
      exact .pure hH (v' := .int k (wrapF k (Int.sub 0 n))) (by rw [wrapF_eq, hn]; simp [execOp, ho, e, Op.unary, Op.intArith]) (raw_mk rfl)
    · cases h
  · cases h

theorem evals_rel {l : List Operand} {as : List AV} (hev : Ops ρ env ev l) (h : evals l env = some as) : VsRel ρ as (l.map ev) := by
  induction l generalizing as with
  | nil => simp [evals] at h; subst h; exact .nil
  | cons x xs ih =>
    have h' : consO (eval x env) (evals xs env) = some as := h
    unfold consO at h'
    split at h'
    · rename_i a ha
      split at h'
      · rename_i l hl
        simp at h'; subst h'
        exact .cons (hev x (by simp) _ ha) (ih (fun y hy => hev y (by simp [hy])) hl)
      · cases h'
    · cases h'

theorem makeFunc_sound {fn : Fn} {first captured : Array Operand} (ho : o.op = .makeFunc fn first captured) (hev : Ops ρ env ev (first ++ captured).toList) (hH : HRel ρ hp w base)
    (h : opMakeFunc fn first captured T env hp = some (.val v hp')) : Res T base ρ hp w (execOp ev o) v hp' := by
  unfold opMakeFunc at h
  split at h
  · rename_i a b ha hb
    simp at h; obtain ⟨rfl, rfl⟩ := h
    refine .pure hH (v' := .func fn (first.map ev) (captured.map ev)) (by simp [execOp, ho, Instr.makeFunc]) ?_
    simp only [VRel]
    refine ⟨_, _, rfl, ?_, ?_⟩
    · rw [Array.toList_map]; exact evals_rel (fun y hy => hev y (by simp at hy ⊢; exact .inl hy)) ha
    · rw [Array.toList_map]; exact evals_rel (fun y hy => hev y (by simp at hy ⊢; exact .inr hy)) hb
  · cases h

/-! ### Parts -/

theorem toList_get {α : Type} (a : Array α) (i : Nat) : a.toList[i]? = a[i]? := by simp

theorem part_sound {t : TypeId} {cs : List AV} {c : Array Value} {off : Nat} {a : AV} (hT : TabOk T) (hc : VsRel ρ cs c.toList) (hcell : ∀ x ∈ c.toList, x.oneCell' = true) (h : partA T t cs off = some a) :
    ∃ v, (part t c off).run T.P w = .ok v w ∧ VRel ρ a v := by
  unfold partA at h
  split at h
  · rename_i ti hti
    have hA := (hT.ty t ti hti).run_agg w
    have hS := (hT.ty t ti hti).run_size w
    split at h
    · rename_i hagg
      split at h
      · rename_i hle
        simp at h; subst h
        refine ⟨.agg (c.extract off (off + ti.size)), by simp [part, hA, hagg, hS], ?_⟩
        simp only [VRel]
        have e : (c.extract off (off + ti.size)).toList = (c.toList.drop off).take ti.size := by simp
        exact ⟨_, rfl, by rw [e]; exact (hc.drop off).take ti.size, fun x hx => hcell x (by rw [e] at hx; exact List.mem_of_mem_drop (List.mem_of_mem_take hx))⟩
      · cases h
    · rename_i hagg
      obtain ⟨v, hv, hr⟩ := hc.get h
      rw [toList_get] at hv
      exact ⟨v, by simp [part, hA, hagg, hv], hr⟩
  · cases h

theorem field_sound {t : TypeId} {x : Operand} {f : Nat} (hT : TabOk T) (ho : o.op = .field t x f) (hev : Ops ρ env ev [x]) (hH : HRel ρ hp w base)
    (h : opField t x f T env hp = some (.val v hp')) : Res T base ρ hp w (execOp ev o) v hp' := by
  unfold opField at h
  split at h
  · rename_i cs hx
    have hx' := hev x (by simp) _ hx
    simp only [VRel] at hx'
    obtain ⟨c, e, h1, h2⟩ := hx'
    split at h
    · rename_i ti hti
      split at h
      · rename_i fields hund
        split at h
        · rename_i fd hfd
          split at h
          · rename_i a ha
            simp at h; obtain ⟨rfl, rfl⟩ := h
            obtain ⟨v', hv, hr⟩ := part_sound (w := w) hT h1 h2 ha
            have hu := (hT.ty t ti hti).run_und w
            rw [hund] at hu
            rw [toList_get] at hfd
            exact .pure hH (v' := v') (by simp [execOp, ho, Instr.field, hu, hfd, e, asAgg, hv]) hr
          · cases h
        · cases h
      · cases h
    · cases h
  · cases h

theorem within_some {n : Int} {y m : Nat} (h : within n y = some m) : n = (m : Int) ∧ m ≤ y := by
  unfold within at h
  split at h
  · split at h
    · rename_i hle
      simp at h; subst h
      exact ⟨rfl, Nat.le_of_ble_eq_true hle⟩
    · cases h
  · cases h

theorem below_some {n : Int} {y m : Nat} (h : below n y = some m) : n = (m : Int) ∧ m < y := by
  unfold below at h
  split at h
  · split at h
    · rename_i hle
      simp at h; subst h
      rw [blt_iff] at hle
      exact ⟨rfl, of_decide_eq_true hle⟩
    · cases h
  · cases h

theorem addr_add (b o n : Nat) : (⟨b, o, none⟩ : Addr).add n = ⟨b, o + n, none⟩ := by
  unfold Addr.add
  split
  · rename_i h; subst h; rfl
  · rfl

theorem indexAddr_sound {t : TypeId} {x ix : Operand} (hT : TabOk T) (ho : o.op = .indexAddr t x ix) (hev : Ops ρ env ev [x, ix]) (hH : HRel ρ hp w base)
    (h : opIndexAddr t x ix T env hp = some (.val v hp')) : Res T base ρ hp w (execOp ev o) v hp' := by
  unfold opIndexAddr at h
  split at h
  · rename_i a k n ti hx hix hti
    have hx' := hev x (by simp) _ hx
    have e2 := raw_rel (hev ix (by simp) _ hix)
    have hu := (hT.ty t ti hti).run_und w
    split at h
    · rename_i i off len e hund
      rw [hund] at hu
      split at h
      · rename_i te m hte hm
        simp only [forceN_eq, Option.some.injEq, ARes.val.injEq] at h
        obtain ⟨rfl, rfl⟩ := h
        obtain ⟨rfl, hlt⟩ := below_some hm
        have hs := (hT.ty e te hte).run_size w
        simp only [VRel] at hx'
        obtain ⟨l, hl, e1⟩ := hx'
        have hr : (Instr.indexAt t (ev x) (ev ix)).run T.P w = .ok (.pointer (some ⟨l.b, l.o + (off + m * te.size), none⟩)) w := by
          have hlt' : (m : Int) < (len : Int) := by omega
          rw [e1, e2]
          simp [Instr.indexAt, asIntOf, hu, Instr.sureAddr, hs, addr_add, hlt, Nat.add_assoc]
        exact .pure hH (by simp [execOp, ho, hr]; rfl) (by simp only [VRel]; exact ⟨l, hl, rfl⟩)
      · cases h
    · rename_i i off len lo ex es e hund
      rw [hund] at hu
      split at h
      · rename_i te m hte hm
        split at h
        · rename_i hes
          simp only [forceN_eq, Option.some.injEq, ARes.val.injEq] at h
          obtain ⟨rfl, rfl⟩ := h
          obtain ⟨rfl, hlt⟩ := below_some hm
          have hs := (hT.ty e te hte).run_size w
          have hes' : te.size = es := Nat.eq_of_beq_eq_true hes
          subst hes'
          simp only [VRel] at hx'
          obtain ⟨l, cap, hl, e1, _⟩ := hx'
          have hr : (Instr.indexAt t (ev x) (ev ix)).run T.P w = .ok (.pointer (some ⟨l.b, l.o + (off + m * te.size), none⟩)) w := by
            have hlt' : (m : Int) < (len : Int) := by omega
            rw [e1, e2]
            simp [Instr.indexAt, asIntOf, hu, hs, addr_add, hlt, Nat.add_assoc]
          exact .pure hH (by simp [execOp, ho, hr]; rfl) (by simp only [VRel]; exact ⟨l, hl, rfl⟩)
        · cases h
      · cases h
    · cases h
  · cases h

theorem index_sound {t : TypeId} {x ix : Operand} (hT : TabOk T) (ho : o.op = .index t x ix) (hev : Ops ρ env ev [x, ix]) (hH : HRel ρ hp w base)
    (h : opIndex t x ix T env hp = some (.val v hp')) : Res T base ρ hp w (execOp ev o) v hp' := by
  unfold opIndex at h
  split at h
  · rename_i a k n ti hx hix hti
    have hx' := hev x (by simp) _ hx
    have e2 := raw_rel (hev ix (by simp) _ hix)
    have hu := (hT.ty t ti hti).run_und w
    split at h
    · rename_i cs len e hund
      rw [hund] at hu
      split at h
      · rename_i te m hte hm
        split at h
        · rename_i a ha
          simp at h; obtain ⟨rfl, rfl⟩ := h
          obtain ⟨rfl, hlt⟩ := below_some hm
          have hs := (hT.ty e te hte).run_size w
          simp only [VRel] at hx'
          obtain ⟨c, e1, h1, h2⟩ := hx'
          obtain ⟨v', hv, hr⟩ := part_sound (w := w) hT h1 h2 ha
          have hlt' : (m : Int) < (len : Int) := by omega
          exact .pure hH (v' := v') (by simp [execOp, ho, Instr.index, e1, e2, asIntOf, hu, hs, hlt, hv]) hr
        · cases h
      · cases h
    · rename_i s hund
      rw [hund] at hu
      split at h
      · rename_i m hm
        split at h
        · rename_i b hb
          simp only [forceN_eq, Option.some.injEq, ARes.val.injEq] at h
          obtain ⟨rfl, rfl⟩ := h
          obtain ⟨rfl, hlt⟩ := below_some hm
          have e1 := raw_rel hx'
          have hb' : s[m]? = some b := by
            rw [toList_get] at hb
            have : m < s.size := by
              have := (Array.getElem?_eq_some_iff.1 hb).1
              exact this
            rw [getElem?_pos s m this]
            obtain ⟨h1, h2⟩ := Array.getElem?_eq_some_iff.1 hb
            rw [← h2]; rfl
          exact .pure hH (v' := .int .u8 b.toNat) (by simp [execOp, ho, Instr.index, e1, e2, asIntOf, hu, hb']) (raw_mk rfl)
        · cases h
      · cases h
    · cases h
  · cases h

theorem extract_sound {x : Operand} {i : Nat} (ho : o.op = .extract x i) (hev : Ops ρ env ev [x]) (hH : HRel ρ hp w base)
    (h : opExtract x i T env hp = some (.val v hp')) : Res T base ρ hp w (execOp ev o) v hp' := by
  unfold opExtract at h
  split at h
  · rename_i vs hx
    have hx' := hev x (by simp) _ hx
    simp only [VRel] at hx'
    obtain ⟨c, e, h1⟩ := hx'
    split at h
    · rename_i a ha
      simp at h; obtain ⟨rfl, rfl⟩ := h
      obtain ⟨v', hv, hr⟩ := h1.get ha
      rw [toList_get] at hv
      exact .pure hH (v' := v') (by simp [execOp, ho, Instr.extract, e, hv]) hr
    · cases h
  · cases h

theorem fieldAddr_sound {s : TypeId} {x : Operand} {f : Nat} (hT : TabOk T) (ho : o.op = .fieldAddr s x f) (hev : Ops ρ env ev [x]) (hH : HRel ρ hp w base)
    (h : opFieldAddr s x f T env hp = some (.val v hp')) : Res T base ρ hp w (execOp ev o) v hp' := by
  unfold opFieldAddr at h
  split at h
  · rename_i i off hx
    have hx' := hev x (by simp) _ hx
    simp only [VRel] at hx'
    obtain ⟨l, hl, e⟩ := hx'
    split at h
    · rename_i ti hti
      have hu := (hT.ty s ti hti).run_und w
      split at h
      · rename_i fields hund
        rw [hund] at hu
        unfold placeOf at h
        split at h
        · rename_i fo size hpl
          split at hpl
          · rename_i fd hfd
            split at hpl
            · rename_i tf htf
              simp at hpl; obtain ⟨rfl, rfl⟩ := hpl
              split at h
              · rename_i hz
                simp only [forceN_eq, Option.some.injEq, ARes.val.injEq] at h
                obtain ⟨rfl, rfl⟩ := h
                have hs := (hT.ty _ tf htf).run_size w
                have hne : tf.size ≠ 0 := by intro h0; rw [h0] at hz; cases hz
                rw [toList_get] at hfd
                refine .pure hH (v' := .pointer (some ⟨l.b, l.o + (off + fd.offset), none⟩)) ?_ (by simp only [VRel]; exact ⟨l, hl, rfl⟩)
                simp [execOp, ho, Instr.fieldAt, hu, hfd, e, Instr.sureAddr, fieldPlace, hs, hne, addr_add, Nat.add_assoc]
              · cases h
            · cases hpl
          · cases hpl
        · cases h
      · cases h
    · cases h
  · cases h

end
end Go.Ab
