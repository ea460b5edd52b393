/-
  EACH OPERATION OF THE ABSTRACT MACHINE IS ONE OF THE MODEL's (all of them).
-/
import Derived.Test.YtmnepjoaggdhpabGreatAbS14
import Derived.Laws.Externs
set_option linter.unusedVariables false
namespace Go.Ab

section
variable {T : Tab} {base : Nat → Prop} {ρ : Inj} {env : Tr AV} {hp hp' : Hp} {w : World} {ev : Operand → Value} {o : Oper} {v : AV}

theorem one_arg {x : AV} {vargs : Array Value} (hr : VsRel ρ [x] vargs.toList) : ∃ vx, vargs = #[vx] ∧ VRel ρ x vx := by
  obtain ⟨vx, vs, e1, hx, h0⟩ := hr.cons_inv
  rw [VsRel.nil_iff] at h0
  subst h0
  exact ⟨vx, by apply Array.toList_inj.1; rw [e1], hx⟩

theorem ResB.op {s : Sem Value} {n : Sem Next} (h : ResB T base ρ hp w s v hp') (hn : ∀ v' w', s.run T.P w = .ok v' w' → n.run T.P w = .ok (.value v') w') : Res T base ρ hp w n v hp' := by
  obtain ⟨ρ', v', w', h1, h2, h3, h4, h5⟩ := h
  exact ⟨ρ', .value v', v', w', hn _ _ h1, rfl, h2, h3, h4, h5⟩

theorem builtin_run {c : Call} {b : Builtin} {s : Sem Value} (ho : o.op = .call c) (hc : c.callee = .builtin b)
    (hs : ∀ k, builtin b c.argTypes o.type k (c.args.map ev) = (do pure (.value (← s)) : Sem Next)) (v' : Value) (w' : World) (h : s.run T.P w = .ok v' w') :
    (execOp ev o).run T.P w = .ok (.value v') w' := by
  simp only [execOp, ho, resolve, hc]
  simp [invoke, hs, h]

theorem builtin_sound {c : Call} {b : Builtin} {args : List AV} (hT : TabOk T) (ho : o.op = .call c) (hc : c.callee = .builtin b) (hr : VsRel ρ args (c.args.map ev).toList) (hH : HRel ρ hp w base)
    (h : opBuiltin b c.argTypes.toList args T hp = some (.val v hp')) : Res T base ρ hp w (execOp ev o) v hp' := by
  unfold opBuiltin at h
  split at h
  · exact (len_sound (ty := o.type) hT hr hH h).op fun v' w' => builtin_run ho hc (fun k => rfl) v' w'
  · exact (append_sound (ty := o.type) hT hr hH h).op fun v' w' => builtin_run ho hc (fun k => rfl) v' w'
  · exact (sliceData_sound (ty := o.type) hr hH h).op fun v' w' => builtin_run ho hc (fun k => rfl) v' w'
  · exact (unsafeString_sound (ty := o.type) hT hr hH h).op fun v' w' => builtin_run ho hc (fun k => rfl) v' w'
  · exact (copy_sound (ty := o.type) hT hr hH h).op fun v' w' => builtin_run ho hc (fun k => rfl) v' w'
  · split at h
    · rename_i k a k' b
      obtain ⟨x, y, e, hx, hy⟩ := two_args hr rfl
      have ex := raw_rel hx
      have ey := raw_rel hy
      subst ex; subst ey
      split at h
      · rename_i hlt
        rw [intLt_eq] at hlt
        have hlt' := of_decide_eq_true hlt
        simp only [Option.some.injEq, ARes.val.injEq] at h
        obtain ⟨rfl, rfl⟩ := h
        refine .pure hH (v' := .int k b) (builtin_run ho hc (fun _ => rfl) _ _ ?_) (raw_mk rfl)
        rw [e]
        simp [Builtin.min_, Builtin.min2, hlt']
      · rename_i hlt
        rw [intLt_eq] at hlt
        have hlt' := of_decide_eq_false hlt
        simp only [Option.some.injEq, ARes.val.injEq] at h
        obtain ⟨rfl, rfl⟩ := h
        refine .pure hH (v' := .int k a) (builtin_run ho hc (fun _ => rfl) _ _ ?_) (raw_mk rfl)
        rw [e]
        simp [Builtin.min_, Builtin.min2, hlt']
    · cases h
  · split at h
    · rename_i k a k' b
      obtain ⟨x, y, e, hx, hy⟩ := two_args hr rfl
      have ex := raw_rel hx
      have ey := raw_rel hy
      subst ex; subst ey
      split at h
      · rename_i hlt
        rw [intLt_eq] at hlt
        have hlt' := of_decide_eq_true hlt
        simp only [Option.some.injEq, ARes.val.injEq] at h
        obtain ⟨rfl, rfl⟩ := h
        refine .pure hH (v' := .int k b) (builtin_run ho hc (fun _ => rfl) _ _ ?_) (raw_mk rfl)
        rw [e]
        simp [Builtin.max_, Builtin.max2, hlt']
      · rename_i hlt
        rw [intLt_eq] at hlt
        have hlt' := of_decide_eq_false hlt
        simp only [Option.some.injEq, ARes.val.injEq] at h
        obtain ⟨rfl, rfl⟩ := h
        refine .pure hH (v' := .int k a) (builtin_run ho hc (fun _ => rfl) _ _ ?_) (raw_mk rfl)
        rw [e]
        simp [Builtin.max_, Builtin.max2, hlt']
    · cases h
  · split at h
    · rename_i a b
      obtain ⟨x, y, e, hx, hy⟩ := two_args hr rfl
      have ex := raw_rel hx
      have ey := raw_rel hy
      subst ex; subst ey
      simp only [Option.some.injEq, ARes.val.injEq] at h
      obtain ⟨rfl, rfl⟩ := h
      refine .pure hH (v' := .complex .f64 a b) (builtin_run ho hc (fun _ => rfl) _ _ ?_) (raw_mk rfl)
      rw [e]
      rfl
    · cases h
  · split at h
    · rename_i k a b
      obtain ⟨x, e, hx⟩ := one_arg hr
      have ex := raw_rel hx
      subst ex
      simp only [Option.some.injEq, ARes.val.injEq] at h
      obtain ⟨rfl, rfl⟩ := h
      refine .pure hH (v' := .float k a) (builtin_run ho hc (fun _ => rfl) _ _ ?_) (raw_mk rfl)
      rw [e]
      rfl
    · cases h
  · split at h
    · rename_i k a b
      obtain ⟨x, e, hx⟩ := one_arg hr
      have ex := raw_rel hx
      subst ex
      simp only [Option.some.injEq, ARes.val.injEq] at h
      obtain ⟨rfl, rfl⟩ := h
      refine .pure hH (v' := .float k b) (builtin_run ho hc (fun _ => rfl) _ _ ?_) (raw_mk rfl)
      rw [e]
      rfl
    · cases h
  · cases h

/-- What an operation looks at stands for what the model's looks at. -/
theorem Ops.of {l : List Operand} (h : ∀ x v, eval x env = some v → VRel ρ v (ev x)) : Ops ρ env ev l := fun x _ v e => h x v e

theorem Ops.to {l : List Operand} {op : Op} (h : Ops ρ env ev o.op.operands.toList) (ho : o.op = op) (hl : op.operands.toList = l := by rfl) : Ops ρ env ev l := by
  rw [← hl, ← ho]; exact h

/-- A call that is answered at once: a builtin; a function of the outside that answers what it is given. -/
theorem opCallee_val {c : Call} {args : List AV} (h : opCallee c.callee c.argTypes args T env hp = some (.val v hp')) :
    (∃ b, c.callee = .builtin b ∧ opBuiltin b c.argTypes.toList args T hp = some (.val v hp')) ∨
    (∃ x f first captured, c.callee = .value x ∧ eval x env = some (.fn (.func f) first captured) ∧ T.ext f = true ∧ first ++ args ++ captured = [v] ∧ hp' = hp) := by
  cases hc : c.callee with
  | builtin b => rw [hc] at h; exact .inl ⟨b, rfl, h⟩
  | value f =>
    rw [hc] at h
    unfold opCallee at h
    dsimp only at h
    split at h
    · rename_i f' first captured hf
      split at h
      · cases h
      · rename_i hx
        split at h
        · rename_i a ha
          cases h
          exact .inr ⟨_, _, _, _, rfl, hf, hx, ha, rfl⟩
        · cases h
    · cases h
  | invoke r n => rw [hc] at h; cases h

theorem ext_sound {c : Call} {args : List AV} {x : Operand} {f : FuncId} {first captured : List AV} (hT : TabOk T) (ho : o.op = .call c) (hc : c.callee = .value x) (hx : VRel ρ (.fn (.func f) first captured) (ev x))
    (he : T.ext f = true) (ha : first ++ args ++ captured = [v]) (hr : VsRel ρ args (c.args.map ev).toList) (hH : HRel ρ hp w base) : Res T base ρ hp w (execOp ev o) v hp := by
  simp only [VRel] at hx
  obtain ⟨a', c', e, h1, h2⟩ := hx
  obtain ⟨fn, hf, hn, hb, hnx, hfd⟩ := hT.ext f he
  have h3 := (h1.append hr).append h2
  rw [ha] at h3
  obtain ⟨v', vs, e1, hv, h0⟩ := h3.cons_inv
  rw [VsRel.nil_iff] at h0
  subst h0
  have e2 : a' ++ c.args.map ev ++ c' = #[v'] := by
    apply Array.ext'
    rw [Array.toList_append, Array.toList_append]
    exact e1
  have hrun := run_callFunc_extern hf hn hb hnx hfd #[v'] w
  rw [Lib.run_noEscape] at hrun
  simp only [Result.andThen] at hrun
  refine .pure hH (v' := v') ?_ hv
  simp only [execOp, ho, resolve, hc, e, Deferred.ofValue]
  simp [invoke, e2, hrun]

theorem opA_val (hT : TabOk T) (hev : Ops ρ env ev o.op.operands.toList) (hH : HRel ρ hp w base)
    (h : opA o.op T env hp = some (.val v hp')) : Res T base ρ hp w (execOp ev o) v hp' := by
  cases ho : o.op with
  | move x => rw [ho] at h; exact move_sound (.inl ho) (hev.to ho) hH h
  | assign x => rw [ho] at h; exact move_sound (.inr ho) (hev.to ho) hH h
  | pick c a b => rw [ho] at h; exact pick_sound ho (hev.to ho) hH h
  | alloc t => rw [ho] at h; exact alloc_sound (env := env) hT ho hH h
  | box t x => rw [ho] at h; exact box_sound ho (hev.to ho) hH h
  | build t ps => rw [ho] at h; exact build_sound hT ho (hev.to ho (by simp [Op.operands])) hH h
  | buildSlice t n ps => rw [ho] at h; exact buildSlice_sound hT ho (hev.to ho (by simp [Op.operands])) hH h
  | load t x => rw [ho] at h; exact load_sound hT ho (hev.to ho) hH h
  | store t x y => rw [ho] at h; exact store_sound hT ho (hev.to ho) hH h
  | nilCheck x => rw [ho] at h; exact nilCheck_sound ho (hev.to ho) hH h
  | binOp op t x y yt => rw [ho] at h; exact bin_sound hT ho (hev.to ho) hH h
  | unOp op t x => rw [ho] at h; exact un_sound ho (hev.to ho) hH h
  | convert s d x => rw [ho] at h; exact convert_sound hT ho (hev.to ho) hH h
  | makeFunc f a b => rw [ho] at h; exact makeFunc_sound ho (hev.to ho (by simp [Op.operands])) hH h
  | makeMap t r => rw [ho] at h; exact makeMap_sound (env := env) ho hH h
  | makeSlice t l c => rw [ho] at h; exact makeSlice_sound hT ho (hev.to ho) hH h
  | slice t x l hi m => rw [ho] at h; exact slice_sound hT ho (hev.to ho (by cases l <;> cases hi <;> cases m <;> rfl)) hH h
  | fieldAddr s x f => rw [ho] at h; exact fieldAddr_sound hT ho (hev.to ho) hH h
  | field t x f => rw [ho] at h; exact field_sound hT ho (hev.to ho) hH h
  | indexAddr t x i => rw [ho] at h; exact indexAddr_sound hT ho (hev.to ho) hH h
  | index t x i => rw [ho] at h; exact index_sound hT ho (hev.to ho) hH h
  | lookup t x i ok => rw [ho] at h; exact lookup_sound hT ho (hev.to ho) hH h
  | mapUpdate t x k y => rw [ho] at h; exact mapUpdate_sound hT ho (hev.to ho) hH h
  | mapEntry t x k => rw [ho] at h; exact mapEntry_sound hT ho (hev.to ho) hH h
  | entryStore t x s y => rw [ho] at h; exact entryStore_sound hT ho (hev.to ho) hH h
  | range t x => rw [ho] at h; exact range_sound hT ho (hev.to ho) hH h
  | next x s => rw [ho] at h; exact next_sound hT ho (hev.to ho) hH h
  | extract x i => rw [ho] at h; exact extract_sound ho (hev.to ho) hH h
  | call c =>
    rw [ho] at h
    have h' : opCall c T env hp = some (.val v hp') := h
    unfold opCall at h'
    split at h'
    · rename_i args hargs
      have hr : VsRel ρ args (c.args.map ev).toList := by
        rw [Array.toList_map]
        exact evals_rel (fun x hx => hev.to ho rfl x (by simp [Op.operands, Call.operands] at hx ⊢; exact .inr hx)) hargs
      rcases opCallee_val h' with ⟨b, hb, hv⟩ | ⟨x, f, first, captured, hc, hf, he, ha, rfl⟩
      · exact builtin_sound hT ho hb hr hH hv
      · exact ext_sound hT ho hc (hev.to ho rfl x (by simp [Op.operands, Call.operands, hc]) _ hf) he ha hr hH
    · cases h'
  | _ => rw [ho] at h; cases h

theorem convPtr_none {s d : TypeDesc} {i : Id} {off : Nat} (h1 : ∀ u, d ≠ .pointer u) (h2 : d ≠ .unsafePointer) : convPtr T s d i off hp = none := by
  unfold convPtr
  split
  · split
    · exact absurd rfl h2
    · exact absurd rfl (h1 _)
    · rfl
  · rfl

/-- An operation that reads memory, and does no more. -/
theorem opA_reads (hT : TabOk T) (hev : Ops ρ env ev o.op.operands.toList) (hH : HRel ρ hp w base) (he : isEff T o.op = false) (hl : isLoad T o.op = true)
    (h : opA o.op T env hp = some (.val v hp')) : ReadsTo T base ρ hp w (execOp ev o) v hp' := by
  cases ho : o.op with
  | load t x => rw [ho] at h; exact load_reads hT ho (hev.to ho) hH h
  | lookup t x i ok => rw [ho] at h; exact lookup_reads hT ho (hev.to ho) hH h
  | binOp op t x y yt => rw [ho] at h; exact bin_reads hT ho (hev.to ho) hH h
  | convert s d x =>
    rw [ho] at h hl
    have h' : opConvert s d x T env hp = some (.val v hp') := h
    unfold opConvert at h'
    split at h'
    · rename_i ts td hts htd
      split at h'
      · split at h'
        · rename_i hund
          simp [isLoad, htd, hund] at hl
        · rename_i hund
          simp [isLoad, htd, hund] at hl
        · cases h'
      · rename_i i off _
        have hn := convPtr_none (hp := hp) (T := T) (s := ts.und) (d := td.und) (i := i) (off := off) (fun u hu => by rw [ho] at he; simp [isEff, htd, hu] at he) (fun hu => by rw [ho] at he; simp [isEff, htd, hu] at he)
        rw [hn] at h'; cases h'
      · cases h'
    · cases h'
  | call c =>
    rw [ho] at h he hl
    have h' : opCall c T env hp = some (.val v hp') := h
    unfold opCall at h'
    split at h'
    · rename_i args hargs
      rcases opCallee_val h' with ⟨b, hb, hv⟩ | ⟨x, f, first, captured, hc, _⟩
      case inr =>
        obtain ⟨callee, as, tys⟩ := c
        dsimp only at hc
        subst hc
        cases he
      have hbl : b = .len := by
        obtain ⟨callee, as, tys⟩ := c
        dsimp only at hb
        subst hb
        cases b <;> first | rfl | (cases he; done) | (cases hl; done)
      subst hbl
      have hr : VsRel ρ args (c.args.map ev).toList := by
        rw [Array.toList_map]
        exact evals_rel (fun x hx => hev.to ho rfl x (by simp [Op.operands, Call.operands] at hx ⊢; exact .inr hx)) hargs
      obtain ⟨h1, h2, v', h3, h4⟩ := len_reads (ty := o.type) hT hr hH hv
      exact ⟨h1, h2, v', builtin_run ho hb (fun k => rfl) v' w h3, h4⟩
    · cases h'
  | _ => rw [ho] at he hl; first | (cases he; done) | (cases hl; done)

/-! ### Calls -/

theorem map_raw_ne {f : FuncId} {args : List AV} {r : Option ARes} (h : r = some (.call f args)) : r ≠ none := by rw [h]; simp

theorem opBin_call {op : BinOp} {t : TypeId} {x y : Operand} {f : FuncId} {args : List AV} : opBin op t x y T env hp ≠ some (.call f args) := by
  intro h
  unfold opBin at h
  split at h
  · rename_i k a k' b _ _
    cases op <;> simp only [intBin, retI, retB, forceI_eq, forceB_eq] at h <;> cases hk : kindEq k k' <;> first | cases h | (cases hb : intEq b 0 <;> first | cases h | (rw [hk] at h; cases h) | (rw [hk, hb] at h; cases h))
  · unfold strBin at h
    split at h <;> (try dsimp only at h)
    · simp only [retB, forceB_eq] at h; cases h
    · simp only [retB, forceB_eq] at h; cases h
    · split at h <;> cases h
    · cases h
  · (repeat' split at h) <;> first | cases h | (simp only [retB, forceB_eq] at h; cases h)
  · (repeat' split at h) <;> first | cases h | (simp only [retB, forceB_eq] at h; cases h)
  · (repeat' split at h) <;> first | cases h | (simp only [retB, forceB_eq] at h; cases h)
  · (repeat' split at h) <;> first | cases h | (simp only [retB, forceB_eq] at h; cases h)
  · cases h

theorem opBuiltin_call {b : Builtin} {tys : List TypeId} {as : List AV} {f : FuncId} {args : List AV} : opBuiltin b tys as T hp ≠ some (.call f args) := by
  intro h
  unfold opBuiltin at h
  split at h <;> (try dsimp only at h)
  · unfold opLen at h
    (repeat' split at h) <;> first | cases h | (simp only [lenK_eq, forceN_eq] at h; cases h)
  · unfold opAppend opAppendStr at h
    (repeat' split at h) <;> first | cases h | skip
    all_goals
      unfold appendTo at h
      simp only [newCells_eq, forceN_eq, writeCells_eq, putObj_eq, ofList_eq, lenK_eq, newObj_eq, Tr.del_eq] at h
      (repeat' split at h) <;> cases h
  · (repeat' split at h) <;> cases h
  · unfold opUnsafeString at h
    simp only [Tr.del_eq] at h
    (repeat' split at h) <;> cases h
  · unfold opCopy at h
    simp only [forceN_eq, writeCells_eq, putObj_eq] at h
    (repeat' split at h) <;> cases h
  all_goals ((repeat' split at h) <;> cases h)

theorem opA_call (hT : TabOk T) (hev : Ops ρ env ev o.op.operands.toList) {f : FuncId} {args : List AV} (h : opA o.op T env hp = some (.call f args)) {fn : Func} {c : Code}
    (hf : T.fns.get f = some fn) (hb : fn.body = some c) : ∃ vargs, (execOp ev o).run T.P w = .ok (.enter f vargs) w ∧ VsRel ρ args vargs.toList := by
  cases ho : o.op with
  | call cl =>
    rw [ho] at h
    have h' : opCall cl T env hp = some (.call f args) := h
    unfold opCall at h'
    split at h'
    · rename_i as has
      have hr : VsRel ρ as (cl.args.map ev).toList := by
        rw [Array.toList_map]
        exact evals_rel (fun x hx => hev.to ho rfl x (by simp [Op.operands, Call.operands] at hx ⊢; exact .inr hx)) has
      cases hg : cl.callee with
      | builtin b => rw [hg] at h'; exact absurd h' opBuiltin_call
      | invoke r n => rw [hg] at h'; cases h'
      | value g =>
        rw [hg] at h'
        unfold opCallee at h'
        dsimp only at h'
        split at h'
        · rename_i f' first captured hfv
          split at h'
          case h_2 => split at h' <;> cases h'
          simp only [Option.some.injEq, ARes.call.injEq] at h'
          obtain ⟨rfl, rfl⟩ := h'
          have hv := hev.to ho rfl g (by simp [Op.operands, Call.operands, hg]) _ hfv
          simp only [VRel] at hv
          obtain ⟨a', c', e, h1, h2⟩ := hv
          obtain ⟨hfn, hname⟩ := hT.fn _ _ hf
          refine ⟨a' ++ cl.args.map ev ++ c', ?_, ?_⟩
          · simp only [execOp, ho, resolve, hg, e, Deferred.ofValue]
            simp [invoke, callFunc, hfn, hname, hb]
          · rw [Array.toList_append, Array.toList_append]
            exact (h1.append hr).append h2
        · cases h'
    · cases h'
  | move x => rw [ho] at h; exact absurd h (opMove_call (T := T))
  | assign x => rw [ho] at h; exact absurd h (opMove_call (T := T))
  | binOp op t x y yt => rw [ho] at h; exact absurd h opBin_call
  | pick c a b =>
    rw [ho] at h; unfold opA opPick at h; dsimp only at h
    split at h <;> first | exact absurd h (opMove_call (T := T)) | cases h
  | alloc t => rw [ho] at h; unfold opA opAlloc at h; simp only [newCells_eq] at h; (repeat' split at h) <;> cases h
  | box t x => rw [ho] at h; unfold opA opBox at h; simp only [newCells_eq] at h; (repeat' split at h) <;> cases h
  | build t ps => rw [ho] at h; unfold opA opBuild at h; dsimp only at h; (repeat' split at h) <;> cases h
  | buildSlice t n ps => rw [ho] at h; unfold opA opBuildSlice at h; simp only [newCells_eq] at h; (repeat' split at h) <;> cases h
  | load t x => rw [ho] at h; unfold opA opLoad at h; dsimp only at h; (repeat' split at h) <;> cases h
  | store t x y => rw [ho] at h; unfold opA opStore at h; simp only [lenK_eq, writeCells_eq, putObj_eq] at h; (repeat' split at h) <;> cases h
  | nilCheck x => rw [ho] at h; unfold opA opNilCheck at h; dsimp only at h; (repeat' split at h) <;> cases h
  | unOp op t x => rw [ho] at h; unfold opA opUn at h; simp only [retB, retI, forceB_eq, forceI_eq] at h; (repeat' split at h) <;> cases h
  | convert s d x => rw [ho] at h; unfold opA opConvert convPtr at h; simp only [retI, forceI_eq] at h; (repeat' split at h) <;> cases h
  | makeFunc f a b => rw [ho] at h; unfold opA opMakeFunc at h; dsimp only at h; (repeat' split at h) <;> cases h
  | makeMap t r => rw [ho] at h; unfold opA opMakeMap at h; simp only [newObj_eq] at h; (repeat' split at h) <;> cases h
  | makeSlice t l c => rw [ho] at h; unfold opA opMakeSlice at h; simp only [newCells_eq] at h; (repeat' split at h) <;> cases h
  | slice t x l hi m => rw [ho] at h; unfold opA opSlice at h; simp only [forceN_eq] at h; (repeat' split at h) <;> cases h
  | fieldAddr s x f => rw [ho] at h; unfold opA opFieldAddr at h; simp only [forceN_eq] at h; (repeat' split at h) <;> cases h
  | field t x f => rw [ho] at h; unfold opA opField at h; dsimp only at h; (repeat' split at h) <;> cases h
  | indexAddr t x i => rw [ho] at h; unfold opA opIndexAddr at h; simp only [forceN_eq] at h; (repeat' split at h) <;> cases h
  | index t x i => rw [ho] at h; unfold opA opIndex at h; simp only [forceN_eq] at h; (repeat' split at h) <;> cases h
  | lookup t x i ok => rw [ho] at h; unfold opA opLookup at h; dsimp only at h; (repeat' split at h) <;> cases h
  | mapUpdate t x k y => rw [ho] at h; unfold opA opMapUpdate at h; simp only [forceN_eq, putObj_eq] at h; (repeat' split at h) <;> cases h
  | mapEntry t x k => rw [ho] at h; unfold opA opMapEntry at h; simp only [forceN_eq, putObj_eq] at h; (repeat' split at h) <;> cases h
  | entryStore t x s y => rw [ho] at h; unfold opA opEntryStore at h; simp only [putObj_eq] at h; (repeat' split at h) <;> cases h
  | range t x => rw [ho] at h; unfold opA opRange at h; simp only [newObj_eq] at h; (repeat' split at h) <;> cases h
  | next x s => rw [ho] at h; unfold opA opNext at h; dsimp only at h; (repeat' split at h) <;> cases h
  | extract x i => rw [ho] at h; unfold opA opExtract at h; dsimp only at h; (repeat' split at h) <;> cases h
  | _ => rw [ho] at h; cases h

end
end Go.Ab
