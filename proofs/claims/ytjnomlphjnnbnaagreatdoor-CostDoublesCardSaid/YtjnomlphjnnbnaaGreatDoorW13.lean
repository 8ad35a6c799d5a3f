/- One operation: what it does is what the evaluator says. Conditions: those of the abstract operation. -/
import Derived.Test.YtjnomlphjnnbnaaGreatDoorW12b
set_option linter.unusedVariables false
set_option linter.unusedSimpArgs false
namespace Go.W
open Go.RowKit (Below)

section
variable {C : Ctx} {B : Nat} {w0 : World} {E : Env} {σ : AS} {w : World} {t : T} {a : Act}

/-- An operation's outcome, and what the evaluator says of it. -/
def NextOk (C : Ctx) (B : Nat) (w0 : World) (E : Env) (w : World) (r : Result Next) : ANext → Prop
  | .val v σ' => ∃ n w' E' v', r = .ok n w' ∧ (n = .value v' ∨ (n = .skip ∧ v' = undef)) ∧ WRel C B w0 E' σ' w' ∧ Ext E w E' w' ∧ Rep E' w' v v'
  | .enter f args => ∃ vs : List Value, r = .ok (.enter f vs.toArray) w ∧ Reps E w args vs ∧ (C.F f).isSome = true

theorem val_pure (W : WRel C B w0 E σ w) {X : Sem Next} {o : Option AV} {r : ANext} {s : Sem Value} (he : X = (do pure (.value (← s)) : Sem Next)) (h : val1 σ o = some r) (hv : ∀ v, o = some v → ∃ v', s.run C.P w = .ok v' w ∧ Rep E w v v') :
    NextOk C B w0 E w (X.run C.P w) r := by
  subst he
  simp only [val1, Option.map_eq_some_iff] at h
  obtain ⟨v, hv0, rfl⟩ := h
  obtain ⟨v', hr, hrep⟩ := hv v hv0
  exact ⟨.value v', w, E, v', by simp [hr], .inl rfl, W, Ext.refl E w, hrep⟩

theorem val_new {X : Sem Next} {r : ANext} {s : Sem Value} {v : AV} {σ' : AS} (he : X = (do pure (.value (← s)) : Sem Next)) (hr : r = .val v σ') (hv : ∃ v' w' E', s.run C.P w = .ok v' w' ∧ WRel C B w0 E' σ' w' ∧ Ext E w E' w' ∧ Rep E' w' v v') :
    NextOk C B w0 E w (X.run C.P w) r := by
  subst he
  subst hr
  obtain ⟨v', w', E', hr, W', x', hrep⟩ := hv
  exact ⟨.value v', w', E', v', by simp [hr], .inl rfl, W', x', hrep⟩

theorem val_unit {X : Sem Next} {r : ANext} {s : Sem Unit} {σ' : AS} (he : X = (do s; pure .skip : Sem Next)) (hr : r = .val .undef σ') (hv : ∃ w', s.run C.P w = .ok () w' ∧ WRel C B w0 E σ' w' ∧ Ext E w E w') :
    NextOk C B w0 E w (X.run C.P w) r := by
  subst he
  subst hr
  obtain ⟨w', hr, W', x'⟩ := hv
  exact ⟨.skip, w', E, undef, by simp [hr], .inr ⟨rfl, rfl⟩, W', x', .undef _⟩

theorem args_run {xs : Array Operand} {vs : List AV} (W : WRel C B w0 E σ w) (HT : TRel E w t a.tmps) (h : evs C t xs.toList = some vs) : Reps E w vs (xs.map a.eval).toList := by
  have := evs_rep W HT _ _ h
  simpa using this

theorem builtin_ok (hC : COk C) (W : WRel C B w0 E σ w) {mq : Bool} {b : Builtin} {tys : Array TypeId} {rt : TypeId} {consts : Array Bool} {as : List AV} {vs : Array Value} {r : ANext} (hr : Reps E w as vs.toList)
    (h : val2 (aBuiltin C mq b tys.toList σ as) = some r) : NextOk C B w0 E w ((builtin b tys rt consts vs).run C.P w) r := by
  simp only [val2, Option.map_eq_some_iff] at h
  obtain ⟨x, hx, rfl⟩ := h
  unfold aBuiltin at hx
  split at hx
  · rename_i ty y htys
    simp only [Option.map_eq_some_iff] at hx
    obtain ⟨n, hn, rfl⟩ := hx
    have hty : tys = #[ty] := by cases tys; simp_all
    subst hty
    obtain ⟨v, hv⟩ : ∃ v, vs = #[v] := by
      cases vs with | mk l => match l, hr with
        | [v], _ => exact ⟨v, rfl⟩
        | [], hr => have := hr.1; simp at this
        | _ :: _ :: _, hr => have := hr.1; simp at this
    subst hv
    exact val_new (s := Builtin.len_ #[ty] rt #[v]) rfl rfl ⟨_, w, E, len_ok hC (hr.2 0 y v rfl rfl) hn, W, Ext.refl E w, .int _ _⟩
  · rename_i ty t2 s y htys
    have hty : tys = #[ty, t2] := by cases tys; simp_all
    subst hty
    obtain ⟨v, u, hv⟩ : ∃ v u, vs = #[v, u] := by
      cases vs with | mk l => match l, hr with
        | [v, u], _ => exact ⟨v, u, rfl⟩
        | [], hr => have := hr.1; simp at this
        | [_], hr => have := hr.1; simp at this
        | _ :: _ :: _ :: _, hr => have := hr.1; simp at this
    subst hv
    have h0 := hr.2 0 s v rfl rfl
    have h1 := hr.2 1 y u rfl rfl
    split at hx
    · rename_i e hk
      exact val_new (s := Builtin.append_ #[ty, t2] rt #[v, u]) rfl rfl (append_ok hC W h0 h1 (.inl ⟨e, hk⟩) hx)
    · rename_i hk
      exact val_new (s := Builtin.append_ #[ty, t2] rt #[v, u]) rfl rfl (append_ok hC W h0 h1 (.inr hk) hx)
    · simp at hx
  · simp only [Option.map_eq_some_iff] at hx
    obtain ⟨⟨k, n, l⟩, hn, rfl⟩ := hx
    have hv := ints2_rep hr hn
    have hv' : vs = ((n :: l).map (Value.int k)).toArray := by rw [← hv]
    subst hv'
    exact val_new (s := Builtin.min_ tys rt _) rfl rfl ⟨_, w, E, min_run C.P k tys rt l n, W, Ext.refl E w, .int _ _⟩
  · simp only [Option.map_eq_some_iff] at hx
    obtain ⟨⟨k, n, l⟩, hn, rfl⟩ := hx
    have hv := ints2_rep hr hn
    have hv' : vs = ((n :: l).map (Value.int k)).toArray := by rw [← hv]
    subst hv'
    exact val_new (s := Builtin.max_ tys rt _) rfl rfl ⟨_, w, E, max_run C.P k tys rt l n, W, Ext.refl E w, .int _ _⟩
  · rename_i ty y htys
    simp only [Option.map_eq_some_iff] at hx
    obtain ⟨n, hn, rfl⟩ := hx
    have hty : tys = #[ty] := by cases tys; simp_all
    subst hty
    obtain ⟨v, hv⟩ : ∃ v, vs = #[v] := by
      cases vs with | mk l => match l, hr with
        | [v], _ => exact ⟨v, rfl⟩
        | [], hr => have := hr.1; simp at this
        | _ :: _ :: _, hr => have := hr.1; simp at this
    subst hv
    exact val_new (s := Builtin.cap_ #[ty] rt #[v]) rfl rfl ⟨_, w, E, cap_ok hC (hr.2 0 y v rfl rfl) hn, W, Ext.refl E w, .int _ _⟩
  · simp at hx

set_option maxHeartbeats 1000000 in
theorem aOp_ok (hC : COk C) (W : WRel C B w0 E σ w) (HT : TRel E w t a.tmps) {mq : Bool} (o : Oper) {r : ANext} (h : aOp C mq t σ o.op = some r) : NextOk C B w0 E w ((execOp a.eval o).run C.P w) r := by
  obtain ⟨dst, op, type, pos, after, guard⟩ := o
  simp only at h
  unfold aOp at h
  split at h
  · -- move
    simp only [val1, Option.map_eq_some_iff] at h
    obtain ⟨v, hv, rfl⟩ := h
    exact ⟨.value _, w, E, _, rfl, .inl rfl, W, Ext.refl E w, ev_rep W HT hv⟩
  · -- assign
    simp only [val1, Option.map_eq_some_iff] at h
    obtain ⟨v, hv, rfl⟩ := h
    exact ⟨.value _, w, E, _, rfl, .inl rfl, W, Ext.refl E w, ev_rep W HT hv⟩
  · -- pick
    rename_i c x y
    simp only [Option.bind_eq_some_iff] at h
    obtain ⟨cv, hc, h⟩ := h
    split at h
    · rename_i b
      simp only [val1, Option.map_eq_some_iff] at h
      obtain ⟨v, hv, rfl⟩ := h
      have hcr := ev_rep W HT hc
      refine ⟨.value (a.eval (if b then x else y)), w, E, _, ?_, .inl rfl, W, Ext.refl E w, ev_rep W HT hv⟩
      generalize hce : a.eval c = cv' at hcr
      cases hcr
      cases b <;> simp [execOp, hce, asBool]
    · simp at h
  · -- alloc
    rename_i e0
    simp only [Option.bind_eq_some_iff, Option.some.injEq] at h
    obtain ⟨d, hd, rfl⟩ := h
    exact val_new (s := Instr.alloc e0 true (.tuple #[])) rfl rfl (alloc_ok hC W hd)
  · -- box
    rename_i e0 x0
    simp only [Option.bind_eq_some_iff, Option.some.injEq] at h
    obtain ⟨v, hv, l, hl, rfl⟩ := h
    exact val_new (s := Instr.box e0 (a.eval x0)) rfl rfl (box_ok W e0 (ev_rep W HT hv) hl)
  · -- build
    rename_i ty parts
    refine val_pure (s := Instr.build ty (parts.map fun (i, x) => (i, a.eval x))) W rfl h fun v hv => ?_
    simp only [Option.bind_eq_some_iff] at hv
    obtain ⟨ps, hps, hv⟩ := hv
    obtain ⟨h1, h2⟩ := evParts_rep W HT _ _ hps
    obtain ⟨v', hr, hrep⟩ := build_ok (us := parts.toList.map fun (i, x) => (i, a.eval x)) hC (by rw [h1]; simp) (by simpa [Function.comp_def] using h2) hv
    exact ⟨v', by rw [← hr]; congr 2; apply Array.ext'; simp, hrep⟩
  · -- buildSlice
    rename_i ty len parts
    simp only [val1, Option.map_eq_some_iff, Option.bind_eq_some_iff] at h
    obtain ⟨v, ⟨ps, hps, hv⟩, rfl⟩ := h
    obtain ⟨h1, h2⟩ := evParts_rep W HT _ _ hps
    obtain ⟨v', w', E', hr, W', x', hrep⟩ := buildSlice_ok (us := parts.toList.map fun (i, x) => (i, a.eval x)) hC W (by rw [h1]; simp) (by simpa [Function.comp_def] using h2) hv
    exact val_new (s := Instr.buildSlice ty len (parts.map fun (i, x) => (i, a.eval x))) rfl rfl ⟨v', w', E', by rw [← hr]; congr 2; apply Array.ext'; simp, W', x', hrep⟩
  · -- load
    rename_i e0 x0
    simp only [Option.bind_eq_some_iff] at h
    obtain ⟨x, hx, h⟩ := h
    exact val_pure (s := Instr.loadAt e0 (a.eval x0)) W rfl h fun v hv => load_ok hC W (ev_rep W HT hx) hv
  · -- store
    rename_i e0 x0 y0
    simp only [Option.bind_eq_some_iff, Option.map_eq_some_iff] at h
    obtain ⟨x, hx, y, hy, σ', hs, rfl⟩ := h
    exact val_unit (s := Instr.storeAt e0 (a.eval x0) (a.eval y0)) rfl rfl (store_ok hC W (ev_rep W HT hx) (ev_rep W HT hy) hs)
  · -- nilCheck
    rename_i x
    simp only [Option.bind_eq_some_iff] at h
    obtain ⟨v, hv, h⟩ := h
    have hr := ev_rep W HT hv
    have fin : ∀ xv, a.eval x = xv → Rep E w v xv → ((∃ p, xv = .pointer (some p)) ∨ (∃ f as bs, xv = .func (.func f) as bs)) → r = .val v σ →
        NextOk C B w0 E w ((execOp a.eval ⟨dst, .nilCheck x, type, pos, after, guard⟩).run C.P w) r := fun xv hx hrep hs hreq => by
      subst hreq
      refine ⟨.value xv, w, E, xv, ?_, .inl rfl, W, Ext.refl E w, hrep⟩
      rcases hs with ⟨p, rfl⟩ | ⟨f, as, bs, rfl⟩ <;> simp [execOp, hx]
    split at h
    · simp only [Option.some.injEq] at h
      exact fin _ rfl hr (by generalize a.eval x = xv at hr; cases hr; exact .inl ⟨_, rfl⟩) h.symm
    · simp only [Option.some.injEq] at h
      exact fin _ rfl hr (by generalize a.eval x = xv at hr; cases hr; exact .inl ⟨_, rfl⟩) h.symm
    · simp only [Option.some.injEq] at h
      exact fin _ rfl hr (by generalize a.eval x = xv at hr; cases hr; exact .inr ⟨_, _, _, rfl⟩) h.symm
    · simp at h
  · -- binOp
    rename_i b0 e0 x0 y0 e1
    simp only [Option.bind_eq_some_iff] at h
    obtain ⟨x, hx, y, hy, h⟩ := h
    exact val_pure (s := do eqGuard b0 e0 x0 y0 (a.eval x0) (a.eval y0); binOp b0 e0 (a.eval x0) (a.eval y0)) W rfl h fun v hv => bin_ok hC (ev_rep W HT hx) (ev_rep W HT hy) hv
  · -- unOp
    rename_i b0 e0 x0
    simp only [Option.bind_eq_some_iff] at h
    obtain ⟨x, hx, h⟩ := h
    exact val_pure (s := Op.unary b0 (a.eval x0)) W rfl h fun v hv => un_ok C.P (ev_rep W HT hx) hv
  · -- convert
    rename_i e0 e1 x0
    simp only [Option.bind_eq_some_iff] at h
    obtain ⟨x, hx, h⟩ := h
    exact val_pure (s := convert e0 e1 (a.eval x0)) W rfl h fun v hv => convert_ok hC W (ev_rep W HT hx) hv
  · -- makeFunc
    rename_i f first cap
    simp only [Option.bind_eq_some_iff, Option.some.injEq] at h
    obtain ⟨x, hx, y, hy, rfl⟩ := h
    have h1 := args_run W HT hx
    have h2 := args_run W HT hy
    refine ⟨.value _, w, E, _, rfl, .inl rfl, W, Ext.refl E w, ?_⟩
    have := Rep.fn (E := E) (w := w) f x y _ _ h1.1 h2.1 h1.2 h2.2
    rw [Array.toArray_toList, Array.toArray_toList] at this
    exact this
  · -- makeMap
    rename_i ty
    simp at h; subst h
    exact val_new (s := Instr.makeMap ty none) rfl rfl (makeMap_ok W ty)
  · -- makeSlice
    rename_i e0 x0 y0
    simp only [Option.bind_eq_some_iff, val2, Option.map_eq_some_iff] at h
    obtain ⟨x, hx, y, hy, z, hz, rfl⟩ := h
    exact val_new (s := Instr.makeSlice e0 (a.eval x0) (a.eval y0)) rfl rfl (makeSlice_ok hC W (ev_rep W HT hx) (ev_rep W HT hy) hz)
  · -- slice
    rename_i ty x lo hi
    simp only [Option.bind_eq_some_iff] at h
    obtain ⟨v, hv, l, hl, m, hm, h⟩ := h
    have hopt : ∀ {o : Option Operand} {q : Option AV}, (match o with | none => some none | some o => (ev C t o).map some) = some q → optRep E w q (o.map a.eval) := fun {o q} hq => by
      cases o with
      | none => simp at hq; subst hq; trivial
      | some o =>
        simp only [Option.map_eq_some_iff] at hq
        obtain ⟨y, hy, rfl⟩ := hq
        exact ev_rep W HT hy
    unfold aSliceAny at h
    split at h
    · simp only [val2, Option.map_eq_some_iff] at h
      obtain ⟨⟨v', σ'⟩, hv', rfl⟩ := h
      exact val_new (s := Instr.sliceAt ty (a.eval x) (lo.map a.eval) (hi.map a.eval) none) rfl rfl (sliceArr_ok hC W (ev_rep W HT hv) (hopt hl) (hopt hm) hv')
    · have h' : val1 σ (aSlice C ty σ v l m) = some r := by
        cases hs : aSlice C ty σ v l m with
        | none => simp [hs, val2] at h
        | some y => simpa [hs, val2, val1] using h
      exact val_pure (s := Instr.sliceAt ty (a.eval x) (lo.map a.eval) (hi.map a.eval) none) W rfl h' fun v' hv' => slice_ok hC W (ev_rep W HT hv) (hopt hl) (hopt hm) hv'
  · -- fieldAddr
    rename_i e0 x0 f0
    simp only [Option.bind_eq_some_iff] at h
    obtain ⟨x, hx, h⟩ := h
    exact val_pure (s := Instr.fieldAt e0 (a.eval x0) f0) W rfl h fun v hv => fieldAddr_ok hC (ev_rep W HT hx) hv
  · -- field
    rename_i e0 x0 f0
    simp only [Option.bind_eq_some_iff] at h
    obtain ⟨x, hx, h⟩ := h
    exact val_pure (s := Instr.field e0 (a.eval x0) f0) W rfl h fun v hv => field_ok hC (ev_rep W HT hx) hv
  · -- indexAddr
    rename_i e0 x0 y0
    simp only [Option.bind_eq_some_iff] at h
    obtain ⟨x, hx, y, hy, h⟩ := h
    exact val_pure (s := Instr.indexAt e0 (a.eval x0) (a.eval y0)) W rfl h fun v hv => indexAddr_ok hC W (ev_rep W HT hx) (ev_rep W HT hy) hv
  · -- index
    rename_i e0 x0 y0
    simp only [Option.bind_eq_some_iff] at h
    obtain ⟨x, hx, y, hy, h⟩ := h
    exact val_pure (s := Instr.index e0 (a.eval x0) (a.eval y0)) W rfl h fun v hv => index_ok hC (ev_rep W HT hx) (ev_rep W HT hy) hv
  · -- lookup
    rename_i e0 x0 y0 ok0
    simp only [Option.bind_eq_some_iff] at h
    obtain ⟨x, hx, y, hy, h⟩ := h
    exact val_pure (s := Instr.lookup e0 (a.eval x0) (a.eval y0) ok0) W rfl h fun v hv => lookup_ok hC W (ev_rep W HT hx) (ev_rep W HT hy) hv
  · -- mapUpdate
    rename_i e0 x0 y0 z0
    simp only [Option.bind_eq_some_iff, Option.map_eq_some_iff] at h
    obtain ⟨x, hx, y, hy, z, hz, σ', hs, rfl⟩ := h
    exact val_unit (s := Instr.mapUpdate e0 (a.eval x0) (a.eval y0) (a.eval z0)) rfl rfl (mapUpdate_ok hC W (ev_rep W HT hx) (ev_rep W HT hy) (ev_rep W HT hz) hs)
  · -- insert
    rename_i e0 x0 y0 z0
    simp only [Option.bind_eq_some_iff, Option.map_eq_some_iff] at h
    obtain ⟨x, hx, y, hy, z, hz, σ', hs, rfl⟩ := h
    exact val_unit (s := Instr.mapUpdate e0 (a.eval x0) (a.eval y0) (a.eval z0)) rfl rfl (mapUpdate_ok hC W (ev_rep W HT hx) (ev_rep W HT hy) (ev_rep W HT hz) hs)
  · -- extract
    rename_i x0 i0
    simp only [Option.bind_eq_some_iff] at h
    obtain ⟨x, hx, h⟩ := h
    exact val_pure (s := Instr.extract (a.eval x0) i0) W rfl h fun v hv => extract_ok C.P (ev_rep W HT hx) hv
  · -- a builtin
    rename_i b args argTypes
    simp only [Option.bind_eq_some_iff] at h
    obtain ⟨as, has, h⟩ := h
    have hr := args_run W HT has
    exact builtin_ok hC W hr h
  · -- a call
    rename_i f args argTypes
    simp only [Option.bind_eq_some_iff] at h
    obtain ⟨fv, hf, as, has, h⟩ := h
    have hr := args_run W HT has
    have hfr := ev_rep W HT hf
    generalize hfe : a.eval f = fv' at hfr
    split at h
    · rename_i g first cap
      split at h
      · rename_i hg
        simp only [Option.some.injEq] at h; subst h
        cases hfr with
        | fn _ _ _ xs ys ha hb h1 h2 =>
          refine ⟨xs ++ (args.map a.eval).toList ++ ys, ?_, Reps.append (Reps.append ⟨ha, h1⟩ hr) ⟨hb, h2⟩, hg⟩
          obtain ⟨fn, hfn⟩ := Option.isSome_iff_exists.1 hg
          obtain ⟨hp, hbody, hname⟩ := hC.fn g fn hfn
          have hbn : fn.body.isNone = false := by cases hb : fn.body <;> simp_all
          have hname' : ¬ fn.name = "runtime.NumGoroutine" := by simpa using hname
          have hbn' : ¬ fn.body = none := by intro h0; rw [h0] at hbody; simp at hbody
          simp [execOp, resolve, hfe, Deferred.ofValue, invoke, callFunc, program, Sem.run, hp, hname', hbn']
      · simp only [Option.bind_eq_some_iff] at h
        obtain ⟨hx, hhx, h⟩ := h
        simp only [val1, Option.map_eq_some_iff] at h
        obtain ⟨v, hv, rfl⟩ := h
        cases hfr with
        | fn _ _ _ xs ys ha hb h1 h2 =>
          obtain ⟨v', hrun, hrep⟩ := hC.ext g hx hhx E w _ _ v (Reps.append (Reps.append ⟨ha, h1⟩ hr) ⟨hb, h2⟩) hv
          refine ⟨.value v', w, E, v', ?_, .inl rfl, W, Ext.refl E w, hrep⟩
          have he : (xs ++ (args.map a.eval).toList ++ ys).toArray = xs.toArray ++ args.map a.eval ++ ys.toArray := by simp
          rw [he] at hrun
          simp only [execOp, resolve, hfe, Deferred.ofValue, invoke, Sem.run_bind, Sem.run_pure, Result.andThen_ok]
          exact hrun
    · simp at h
  · simp at h
end
end Go.W
