/-
  EACH OPERATION OF THE ABSTRACT MACHINE IS ONE OF THE MODEL's (slices cut, made; numbers turned; maps made).
-/
import Derived.Lib.Builder
import Derived.Test.YtmnepjoaggdhpabGreatAbS6
set_option linter.unusedVariables false
namespace Go.Ab

theorem wrap_small {m : Nat} (h : m < 9223372036854775808) : IntKind.i64.wrap (m : Int) = m := by
  rw [← wrapF_eq]
  unfold wrapF
  have : blt m 9223372036854775808 = true := by rw [blt_iff]; simpa using h
  show (match blt m 9223372036854775808 with | true => Int.ofNat m | false => IntKind.wrap .i64 (Int.ofNat m)) = _
  rw [this]; rfl

section
variable {T : Tab} {base : Nat → Prop} {ρ : Inj} {env : Tr AV} {hp hp' : Hp} {w : World} {ev : Operand → Value} {o : Oper} {v : AV}

theorem makeMap_sound {t : TypeId} {r : Option Operand} (ho : o.op = .makeMap t r) (hH : HRel ρ hp w base)
    (h : opMakeMap t r T env hp = some (.val v hp')) : Res T base ρ hp w (execOp ev o) v hp' := by
  unfold opMakeMap at h
  split at h
  · rw [newObj_eq] at h
    simp only [Option.some.injEq, ARes.val.injEq] at h
    obtain ⟨rfl, rfl⟩ := h
    obtain ⟨h1, h2, h3⟩ := hH.grow (w' := { w with heap := w.heap.push (.map #[] 0) }) (x := .map #[] 0) (o := .map [] 0) (l := ⟨w.heap.size, 0, 0⟩) rfl rfl ⟨#[], by simp, by simp [EsRel]⟩
    refine ⟨_, .value (.map (some w.heap.size)), _, _, ?_, rfl, h2, h1, ?_, h3⟩
    · simp [execOp, ho, Instr.makeMap]
    · simp only [VRel]; exact ⟨_, Inj.upd_self _ _ _, rfl⟩
  · cases h

theorem makeSlice_sound {t : TypeId} {l c : Operand} (hT : TabOk T) (ho : o.op = .makeSlice t l c) (hev : Ops ρ env ev [l, c]) (hH : HRel ρ hp w base)
    (h : opMakeSlice t l c T env hp = some (.val v hp')) : Res T base ρ hp w (execOp ev o) v hp' := by
  unfold opMakeSlice at h
  split at h
  · rename_i li ci ti hl hc hti
    have el := raw_rel (hev l (by simp) _ hl)
    have ec := raw_rel (hev c (by simp) _ hc)
    have hu := (hT.ty t ti hti).run_und w
    split at h
    · rename_i e hund
      rw [hund] at hu
      split at h
      · rename_i te ln cn hte hln hcn
        split at h
        · rename_i z hz e1 e2 e3 e4
          split at h
          · rename_i e5
            rw [newCells_eq] at h
            simp only [Option.some.injEq, ARes.val.injEq] at h
            obtain ⟨rfl, rfl⟩ := h
            have hli : li = (ln : Int) := by cases li <;> simp [natOf] at hln; subst hln; rfl
            have hci : ci = (cn : Int) := by cases ci <;> simp [natOf] at hcn; subst hcn; rfl
            subst hli; subst hci
            have hle := Nat.le_of_ble_eq_true e1
            have hb1 := Nat.le_of_ble_eq_true e2
            have hb2 := Nat.le_of_ble_eq_true e3
            have hzl := Nat.eq_of_beq_eq_true e5
            have hne : te.size ≠ 0 := by intro h0; rw [h0] at e4; cases e4
            have hS := (hT.ty e te hte).run_size w
            obtain ⟨inf, hinf, _, hbytes, _⟩ := (hT.ty e te hte).run_info w
            obtain ⟨zv, hzv, hzr, hzc⟩ := (hT.ty e te hte).run_zero w hz ρ
            have hzlen := hzr.length
            have hzs : zv.cells.size = te.size := by
              have : zv.cells.toList.length = zv.cells.size := Array.length_toList
              omega
            have hm : most = 1099511627776 := rfl
            have w1 := wrap_small (m := ln) (by omega)
            have w2 := wrap_small (m := cn) (by omega)
            obtain ⟨c0, hc0, hrun0⟩ : ∃ c0 : Array Value, c0.toList = rep zv.cells.toList cn ∧ (cn = 0 → c0 = #[]) ∧ (cn ≠ 0 → c0 = (Array.range (cn * te.size)).map (fun i => zv.cells[i % zv.cells.size]!)) := by
              by_cases hn : cn = 0
              · subst hn; exact ⟨#[], by simp [rep], fun _ => rfl, fun h => absurd rfl h⟩
              · exact ⟨_, by rw [← hzs]; exact range_cells _ _ (by omega), fun h => absurd h hn, fun _ => rfl⟩
            have hrr : VsRel ρ (rep z cn) c0.toList := by rw [hc0]; exact hzr.rep cn
            have hlen := hrr.length
            have hrl : (rep z cn).length = cn * te.size := by rw [rep_length, hzl]
            have hcsz : c0.size = cn * te.size := by
              have : c0.toList.length = c0.size := Array.length_toList
              omega
            have htk : c0.toList.take (rep z cn).length = c0.toList := List.take_of_length_le (by omega)
            obtain ⟨g1, g2, g3⟩ := hH.newCells (st := .any) (w' := { w with heap := w.heap.push (.cells c0 e) }) (l := rep z cn) rfl (by rw [htk]; exact hrr) (by rw [htk, hc0]; intro x hx; exact hzc x (rep_mem hx))
            refine ⟨_, .value (.slice (some ⟨w.heap.size, 0, none⟩) ln cn), _, _, ?_, rfl, g2, g1, ?_, g3⟩
            · have hb3 : ¬ ((inf.bytes : Int) * (cn : Int) > 2 ^ 48) := by
                have : (2 : Int) ^ 48 = 281474976710656 := rfl
                rw [this, hbytes]
                have : ((te.bytes : Int) * (cn : Int)) = ((cn * te.bytes : Nat) : Int) := by rw [Nat.mul_comm]; simp
                rw [this]; omega
              have hcond : ((decide ((cn : Int) < 0) || decide ((inf.bytes : Int) * (cn : Int) > 2 ^ 48) || decide ((ln : Int) < 0) || decide ((ln : Int) > (cn : Int))) = true) = False := by
                simp; omega
              by_cases hn : cn = 0
              · have e0 := hrun0.1 hn
                subst e0; subst hn
                have hln0 : ln = 0 := by omega
                subst hln0
                have hr0 : Array.range 0 = #[] := rfl
                simp only [execOp, ho, Instr.makeSlice, Sem.run_bind, hu, Result.andThen_ok, el, ec, asInt, asIntOf, Sem.run_pure, hinf, w1, w2, hcond, if_false, run_askRoom, hS, Int.toNat_natCast, Nat.zero_mul, if_true, hr0, newRow, run_newObj, Array.map_empty]
              · have e0 := hrun0.2 hn
                have h0 : cn * te.size ≠ 0 := Nat.mul_ne_zero hn hne
                simp only [execOp, ho, Instr.makeSlice, Sem.run_bind, hu, Result.andThen_ok, el, ec, asInt, asIntOf, Sem.run_pure, hinf, w1, w2, hcond, if_false, run_askRoom, hS, Int.toNat_natCast, if_neg h0, hzv, ← e0, newRow, run_newObj]
            · unfold mkSl
              cases cn with
              | zero => simp only [VRel]; exact ⟨_, 0, by have : ln = 0 := by omega
                                                          rw [this], fun _ => rfl⟩
              | succ m =>
                simp only [VRel]
                exact ⟨_, m + 1, Inj.upd_self _ _ _, by simp, by omega, by omega, fun _ => rfl, by simp; omega⟩
          · cases h
        · cases h
      · cases h
    · cases h
  · cases h

/-- A variable of a type lies at the head of a row of one. -/
theorem lies_self {P : Program} {e : TypeId} (hc : P.cellsOf e ≠ 0) : liesAt P P.depth e 1 0 e 1 = true := by
  have hd : P.depth = (2 * (P.types.size + Made.depth) + 1) + 1 := rfl
  rw [hd]
  simp only [liesAt, Bool.or_eq_true]
  left
  rw [hd]
  simp [rowAt, hc, sameLayout]

theorem convPtr_sound {s d : TypeId} {ts td : TyI} {i : Id} {off : Nat} {x : Value} (hT : TabOk T) (hts : T.tys.get s = some ts) (htd : T.tys.get d = some td) (hx : VRel ρ (.ptr i off) x) (hH : HRel ρ hp w base)
    (h : convPtr T ts.und td.und i off hp = some (.val v hp')) : (Go.convert s d x).run T.P w = .ok x w ∧ v = .ptr i off ∧ hp' = hp := by
  have hu := (hT.ty s ts hts).und
  have hd := (hT.ty d td htd).und
  simp only [VRel] at hx
  obtain ⟨l, hl, rfl⟩ := hx
  unfold convPtr at h
  split at h
  · rename_i n kd tr hi
    obtain ⟨l', c, el, fr, hl', _, h1, h2, h3, h4, h6, h5⟩ := heap_kind hH hi
    rw [hl] at hl'; cases hl'
    have hsh : w.shape? l.b = some (el, c.size) := by simp [World.shape?, h1]
    split at h
    · rename_i e hse hde
      split at h
      · rename_i te hte hlt
        rw [blt_iff] at hlt
        have hlt' := of_decide_eq_true hlt
        split at h
        · rename_i hz
          simp only [Option.some.injEq, ARes.val.injEq] at h
          obtain ⟨rfl, rfl⟩ := h
          obtain ⟨j, hj, hjs, _⟩ := (hT.ty e te hte).info
          rw [hse] at hu; rw [hde] at hd
          refine ⟨Lib.run_to_unsafe w ⟨l.b, l.o + off, none⟩ hu hd hj ?_ hsh (by show l.o + off < c.size; omega), rfl, rfl⟩
          rw [hjs]
          exact Nat.ne_of_beq_eq_false hz
        · cases h
      · cases h
    · rename_i u hse hde
      split at h
      · rename_i t
        split at h
        · rename_i tu ht htu
          split at h
          · rename_i hz hn
            simp only [Option.some.injEq, ARes.val.injEq] at h
            obtain ⟨rfl, rfl⟩ := h
            have ht' := Nat.eq_of_beq_eq_true ht
            subst ht'
            obtain ⟨j, hj, hjs, _⟩ := (hT.ty t tu htu).info
            rw [hse] at hu; rw [hde] at hd
            obtain ⟨rfl, ho, hln⟩ := h6
            have hn' := Nat.eq_of_beq_eq_true hn
            have hco : T.P.cellsOf el = tu.size := by simp [Program.cellsOf, hj, hjs]
            have hne : tu.size ≠ 0 := Nat.ne_of_beq_eq_false hz
            refine ⟨Lib.run_from_unsafe w ⟨l.b, l.o + 0, none⟩ hu hd hj hsh ?_, rfl, rfl⟩
            rw [hco, h2, hln, ← hn', ho, Nat.div_self (Nat.pos_of_ne_zero hne)]
            exact lies_self (by rw [hco]; exact hne)
          · cases h
        · cases h
      · cases h
    · cases h
  · cases h

theorem convert_sound {s d : TypeId} {x : Operand} (hT : TabOk T) (ho : o.op = .convert s d x) (hev : Ops ρ env ev [x]) (hH : HRel ρ hp w base)
    (h : opConvert s d x T env hp = some (.val v hp')) : Res T base ρ hp w (execOp ev o) v hp' := by
  unfold opConvert at h
  split at h
  · rename_i ts td hts htd
    have hu := (hT.ty s ts hts).run_und w
    have hd := (hT.ty d td htd).run_und w
    split at h
    · rename_i k n hx
      have e := raw_rel (hev x (by simp) _ hx)
      split at h
      · rename_i k' hund
        rw [hund] at hd
        simp only [retI, forceI_eq, Option.some.injEq, ARes.val.injEq] at h
        obtain ⟨rfl, rfl⟩ := h
        exact .pure hH (v' := .int k' (wrapF k' n)) (by rw [wrapF_eq]; simp [execOp, ho, e, Go.convert, hu, hd, Conv.intToInt]) (raw_mk rfl)
      · rename_i k' hund
        rw [hund] at hd
        simp only [Option.some.injEq, ARes.val.injEq] at h
        obtain ⟨rfl, rfl⟩ := h
        exact .pure hH (v' := .float k' (k'.nearest n)) (by simp [execOp, ho, e, Go.convert, hu, hd, Conv.intToFloat]) (raw_mk rfl)
      · cases h
    · rename_i i off hx
      have hx' := hev x (by simp) _ hx
      obtain ⟨h1, rfl, rfl⟩ := convPtr_sound hT hts htd hx' hH h
      exact .pure hH (v' := ev x) (by simp [execOp, ho, h1]) hx'
    · cases h
  · cases h

/-! ### Slices cut -/

theorem sliceBound_run {P : Program} {k : IntKind} {m y : Nat} {code : BoundsCode} (h : m ≤ y) : (Instr.sliceBound (.int k (m : Int)) y code).run P w = .ok m w := by
  simp [Instr.sliceBound, asIntOf, h]

theorem optInt_some {d : Nat} {x : Option Operand} {n : Int} (hev : Ops ρ env ev x.toList) (h : optInt env d x = some n) :
    (x = none ∧ n = (d : Int)) ∨ ∃ y k, x = some y ∧ ev y = .int k n := by
  unfold optInt at h
  split at h
  · cases h; exact .inl ⟨rfl, rfl⟩
  · rename_i y
    split at h
    · rename_i k m hy
      cases h
      exact .inr ⟨y, k, rfl, raw_rel (hev y (by simp) _ hy)⟩
    · cases h

theorem bounds_run {P : Program} {isS : Bool} {len cap cap' : Nat} {lo hi mx : Option Operand} {l h m : Nat} (hev : Ops ρ env ev (lo.toList ++ hi.toList ++ mx.toList)) (hhm : (hi.isNone && mx.isSome) = false)
    (hc : cap ≤ cap') (hb : bounds3 env len cap lo hi mx = some (l, h, m)) :
    ∃ m', (Instr.sliceBounds isS len cap' (lo.map ev) (hi.map ev) (mx.map ev)).run P w = .ok (l, h, m') w ∧ l ≤ h ∧ h ≤ m ∧ m ≤ cap ∧ m' ≤ cap' ∧ m ≤ m' ∧ (mx.isSome = true → m' = m) ∧ (mx = none → m' = cap' ∧ m = cap) := by
  unfold bounds3 at hb
  split at hb
  · cases hb
  rename_i mi hmi
  split at hb
  · cases hb
  rename_i mn hmn
  split at hb
  · cases hb
  rename_i hi' hhi
  split at hb
  · cases hb
  rename_i hn hhn
  split at hb
  · cases hb
  rename_i li hli
  split at hb
  · cases hb
  rename_i ln hln
  simp only [Option.some.injEq, Prod.mk.injEq] at hb
  obtain ⟨rfl, rfl, rfl⟩ := hb
  obtain ⟨rfl, hm1⟩ := within_some hmn
  obtain ⟨rfl, hh1⟩ := within_some hhn
  obtain ⟨rfl, hl1⟩ := within_some hln
  have c1 := optInt_some (fun y hy => hev y (by simp at hy ⊢; exact .inr (.inr hy))) hmi
  have c2 := optInt_some (fun y hy => hev y (by simp at hy ⊢; exact .inr (.inl hy))) hhi
  have c3 := optInt_some (fun y hy => hev y (by simp at hy ⊢; exact .inl hy)) hli
  rcases c1 with ⟨rfl, e1⟩ | ⟨y1, k1, rfl, e1⟩
  · have : mn = cap := by omega
    subst this
    refine ⟨cap', ?_, hl1, hh1, Nat.le_refl _, Nat.le_refl _, hc, (by simp), fun _ => ⟨rfl, rfl⟩⟩
    rcases c2 with ⟨rfl, e2⟩ | ⟨y2, k2, rfl, e2⟩
    · have : hn = len := by omega
      subst this
      rcases c3 with ⟨rfl, e3⟩ | ⟨y3, k3, rfl, e3⟩
      · have : ln = 0 := by omega
        subst this
        simp [Instr.sliceBounds]
      · simp [Instr.sliceBounds, e3, sliceBound_run hl1]
    · rcases c3 with ⟨rfl, e3⟩ | ⟨y3, k3, rfl, e3⟩
      · have : ln = 0 := by omega
        subst this
        simp [Instr.sliceBounds, e2, sliceBound_run (Nat.le_trans hh1 hc)]
      · simp [Instr.sliceBounds, e2, e3, sliceBound_run (Nat.le_trans hh1 hc), sliceBound_run hl1]
  · refine ⟨mn, ?_, hl1, hh1, hm1, Nat.le_trans hm1 hc, Nat.le_refl _, fun _ => rfl, (by simp)⟩
    rcases c2 with ⟨rfl, e2⟩ | ⟨y2, k2, rfl, e2⟩
    · simp at hhm
    · rcases c3 with ⟨rfl, e3⟩ | ⟨y3, k3, rfl, e3⟩
      · have : ln = 0 := by omega
        subst this
        simp [Instr.sliceBounds, e1, e2, sliceBound_run (Nat.le_trans hm1 hc), sliceBound_run hh1]
      · simp [Instr.sliceBounds, e1, e2, e3, sliceBound_run (Nat.le_trans hm1 hc), sliceBound_run hh1, sliceBound_run hl1]

theorem slice_sound {t : TypeId} {x : Operand} {lo hi mx : Option Operand} (hT : TabOk T) (ho : o.op = .slice t x lo hi mx) (hev : Ops ρ env ev (x :: (lo.toList ++ hi.toList ++ mx.toList))) (hH : HRel ρ hp w base)
    (h : opSlice t x lo hi mx T env hp = some (.val v hp')) : Res T base ρ hp w (execOp ev o) v hp' := by
  have hev' : Ops ρ env ev (lo.toList ++ hi.toList ++ mx.toList) := fun y hy => hev y (by simp at hy ⊢; exact .inr hy)
  unfold opSlice at h
  split at h
  · rename_i a ti ha hti hhm
    have ha' := hev x (by simp) _ ha
    have hu := (hT.ty t ti hti).run_und w
    split at h
    · rename_i s hund
      rw [hund] at hu
      split at h
      · rename_i l hh m hb
        simp only [Option.some.injEq, ARes.val.injEq] at h
        obtain ⟨rfl, rfl⟩ := h
        obtain ⟨m', hrun, _⟩ := bounds_run (P := T.P) (w := w) (isS := false) hev' hhm (Nat.le_refl _) hb
        have e := raw_rel ha'
        exact .pure hH (v' := .string (s.extract l hh)) (by
          simp only [Option.map_none] at hrun
          simp [execOp, ho, Instr.sliceAt, Instr.slice, hu, e, hrun]) (raw_mk rfl)
      · cases h
    · rename_i i off len cap ex es e hund
      rw [hund] at hu
      split at h
      · rename_i te l hh m hte hb
        split at h
        · rename_i hes
          simp only [forceN_eq, Option.some.injEq, ARes.val.injEq] at h
          obtain ⟨rfl, rfl⟩ := h
          have hes' : te.size = es := Nat.eq_of_beq_eq_true hes
          subst hes'
          have hS := (hT.ty e te hte).run_size w
          simp only [VRel] at ha'
          obtain ⟨lc, cap', hlc, e1, hlen, hcap, hex, hfit⟩ := ha'
          obtain ⟨m', hrun, h1, h2, h3, h4, h5, h6, h7⟩ := bounds_run (P := T.P) (w := w) (isS := true) hev' hhm hcap hb
          have hrun' : (execOp ev o).run T.P w = .ok (.value (.slice (if m' = l then some ⟨lc.b, lc.o + off, none⟩ else some ⟨lc.b, lc.o + off + l * te.size, none⟩) (hh - l) (m' - l))) w := by
            by_cases hml : m' = l
            · simp [execOp, ho, Instr.sliceAt, Instr.slice, hu, e1, hrun, hS, hml]
            · simp [execOp, ho, Instr.sliceAt, Instr.slice, hu, e1, hrun, hS, hml, addr_add]
          refine .pure hH hrun' ?_
          have hexx : (ex || mx.isSome) = true → m' = m := by
            intro hh'
            rcases Bool.or_eq_true_iff.1 hh' with h' | h'
            · cases hmx : mx with
              | none => have := h7 hmx; have := hex h'; omega
              | some y => exact h6 (by rw [hmx]; rfl)
            · exact h6 h'
          unfold mkSl
          cases hml : m - l with
          | zero =>
            simp only [VRel]
            have hz : hh - l = 0 := by omega
            rw [hz]
            by_cases hm'l : m' = l
            · rw [if_pos hm'l]; exact ⟨_, _, rfl, fun _ => by omega⟩
            · rw [if_neg hm'l]; exact ⟨_, _, rfl, fun hh' => by have := hexx hh'; omega⟩
          | succ q =>
            simp only [VRel]
            have hm'l : m' ≠ l := by omega
            rw [if_neg hm'l]
            refine ⟨lc, m' - l, hlc, by rw [Nat.add_assoc], by omega, by omega, fun hh' => by have := hexx hh'; omega, ?_⟩
            have h8 : m' * te.size ≤ cap' * te.size := Nat.mul_le_mul_right _ h4
            have h9 : (m' - l) * te.size = m' * te.size - l * te.size := Nat.sub_mul _ _ _
            have h10 : l * te.size ≤ m' * te.size := Nat.mul_le_mul_right _ (by omega)
            omega
        · cases h
      · cases h
    · rename_i ex e hund
      rw [hund] at hu
      split at h
      · rename_i te p hte hb
        obtain ⟨l, hh, m⟩ := p
        simp only [Option.some.injEq, ARes.val.injEq] at h
        obtain ⟨rfl, rfl⟩ := h
        have hS := (hT.ty e te hte).run_size w
        simp only [VRel] at ha'
        obtain ⟨ad, cap', e1, hex⟩ := ha'
        obtain ⟨m', hrun, h1, h2, h3, h4, h5, h6, h7⟩ := bounds_run (P := T.P) (w := w) (isS := true) (cap' := cap') hev' hhm (Nat.zero_le _) hb
        have hl0 : l = 0 := by omega
        have hh0 : hh = 0 := by omega
        have hm0 : m = 0 := by omega
        subst hl0; subst hh0; subst hm0
        refine .pure hH (v' := .slice (some (if m' = 0 then ad else ad.add (0 * te.size))) 0 m') ?_ ?_
        · by_cases hml : m' = 0
          · simp [execOp, ho, Instr.sliceAt, Instr.slice, hu, e1, hrun, hS, hml]
          · simp [execOp, ho, Instr.sliceAt, Instr.slice, hu, e1, hrun, hS, hml]
        · simp only [VRel]
          refine ⟨_, m', rfl, fun hh' => ?_⟩
          rcases Bool.or_eq_true_iff.1 hh' with h' | h'
          · have := hex h'; omega
          · exact h6 h'
      · cases h
    · rename_i e hund
      rw [hund] at hu
      split at h
      · rename_i te p hte hb
        obtain ⟨l, hh, m⟩ := p
        simp only [Option.some.injEq, ARes.val.injEq] at h
        obtain ⟨rfl, rfl⟩ := h
        have hS := (hT.ty e te hte).run_size w
        have e1 := raw_rel ha'
        obtain ⟨m', hrun, h1, h2, h3, h4, h5, h6, h7⟩ := bounds_run (P := T.P) (w := w) (isS := true) (cap' := 0) hev' hhm (Nat.zero_le _) hb
        have hl0 : l = 0 := by omega
        have hh0 : hh = 0 := by omega
        have hm0 : m' = 0 := by omega
        subst hl0; subst hh0; subst hm0
        exact .pure hH (v' := .slice none 0 0) (by simp [execOp, ho, Instr.sliceAt, Instr.slice, hu, e1, hrun, hS]) (raw_mk rfl)
      · cases h
    · cases h
  · cases h

end
end Go.Ab
