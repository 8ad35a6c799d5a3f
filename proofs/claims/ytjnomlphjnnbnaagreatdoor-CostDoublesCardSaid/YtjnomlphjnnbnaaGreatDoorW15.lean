/- A call of a function is its body's run. Conditions: none. -/
import Derived.Test.YtjnomlphjnnbnaaGreatDoorW14
set_option linter.unusedVariables false
set_option linter.unusedSimpArgs false
namespace Go.W
open Go.RowKit (Below)

def resA (C : Ctx) (σ : AS) (t : T) : List ResultVar → Option (List AV)
  | [] => some []
  | .tmp k :: r => (resA C σ t r).map fun l => t.get k :: l
  | .cell k ty :: r => (aLoad C σ ty (t.get k)).bind fun v => (resA C σ t r).map fun l => v :: l

def retA (C : Ctx) (σ : AS) (t : T) (rs : List ResultVar) : Option AV := (resA C σ t rs).map fun l => match l with
  | [v] => v
  | l => .tup l

/-- The slots as a call begins. -/
def T.enter (fn : Func) (args : List AV) : T := ⟨args.length + (fn.ntmps - args.length), fun k => (args[k]?).getD .undef⟩

/-- What a body has to do that a call may end so. -/
def RetQ (C : Ctx) (fn : Func) (Q : AV → AS → Prop) (e : Ex) (t : T) (σ : AS) : Prop := match e with
  | .normal | .ret => (match retA C σ t fn.results.toList with | some v => Q v σ | none => False)
  | _ => False

section
variable {C : Ctx} {B : Nat} {w0 : World}

theorem resA_ok (hC : COk C) {E : Env} {σ : AS} {w : World} {t : T} {tmps : Array Value} (W : WRel C B w0 E σ w) (HT : TRel E w t tmps) : ∀ {rs : List ResultVar} {l : List AV}, resA C σ t rs = some l →
    ∃ vs : List Value, (rs.mapM fun r => (match r with | .tmp t => pure (tmps.getD t undef) | .cell a t => do loadVar t (← asAddr (tmps.getD a undef)) : Sem Value)).run C.P w = .ok vs w ∧ Reps E w l vs
  | [], l, h => by simp [resA] at h; subst h; exact ⟨[], rfl, Reps.nil E w⟩
  | .tmp k :: rs, l, h => by
    simp only [resA, Option.map_eq_some_iff] at h
    obtain ⟨l', hl', rfl⟩ := h
    obtain ⟨vs, hrun, hr⟩ := resA_ok hC W HT hl'
    exact ⟨tmps.getD k undef :: vs, by simp only [List.mapM_cons, Sem.run_bind, Sem.run_pure, Result.andThen_ok, hrun], Reps.cons (HT.2 k) hr⟩
  | .cell k ty :: rs, l, h => by
    simp only [resA, Option.bind_eq_some_iff, Option.map_eq_some_iff] at h
    obtain ⟨v, hv, l', hl', rfl⟩ := h
    obtain ⟨vs, hrun, hr⟩ := resA_ok hC W HT hl'
    obtain ⟨u, hu, hur⟩ := load_ok hC W (HT.2 k) hv
    have hp : ∃ ad, tmps.getD k undef = .pointer (some ad) := by
      have ht := HT.2 k
      simp only [aLoad, Option.bind_eq_some_iff] at hv
      obtain ⟨d, hd, tg, htg, _⟩ := hv
      obtain ⟨b, o, hb, _⟩ := target_rep W ht (cs := tg.1) (off := tg.2) (by simpa using htg)
      exact ⟨_, hb⟩
    obtain ⟨ad, had⟩ := hp
    have hu' : (loadVar ty ad).run C.P w = .ok u w := by
      rw [had] at hu
      simpa [Instr.loadAt, Instr.sureAddr] using hu
    have ha : (asAddr (tmps.getD k undef)).run C.P w = .ok ad w := by rw [had]; rfl
    exact ⟨u :: vs, by simp only [List.mapM_cons, Sem.run_bind, ha, Sem.run_pure, Result.andThen_ok, hu', hrun], Reps.cons hur hr⟩

theorem retA_ok (hC : COk C) {E : Env} {σ : AS} {w : World} {t : T} {tmps : Array Value} {fn : Func} {v : AV} (W : WRel C B w0 E σ w) (HT : TRel E w t tmps) (h : retA C σ t fn.results.toList = some v) :
    ∃ v', (results fn tmps).run C.P w = .ok v' w ∧ Rep E w v v' := by
  simp only [retA, Option.map_eq_some_iff] at h
  obtain ⟨l, hl, rfl⟩ := h
  obtain ⟨vs, hrun, hr⟩ := resA_ok hC W HT hl
  have hrun' : (fn.results.mapM fun r => (match r with | .tmp t => pure (tmps.getD t undef) | .cell a t => do loadVar t (← asAddr (tmps.getD a undef)) : Sem Value)).run C.P w = .ok vs.toArray w := by
    rw [← Array.toList_mapM] at hrun
    simp only [Sem.run_map] at hrun
    revert hrun
    cases ((fn.results.mapM fun r => (match r with | .tmp t => pure (tmps.getD t undef) | .cell a t => do loadVar t (← asAddr (tmps.getD a undef)) : Sem Value)).run C.P w) with
    | ok x w1 => simp; rintro rfl rfl; exact ⟨by simp, rfl⟩
    | halt x w1 => simp
  have hres : (results fn tmps).run C.P w = .ok (if h : vs.toArray.size = 1 then vs.toArray[0] else .tuple vs.toArray) w := by
    show Sem.run C.P (do let vs ← fn.results.mapM _; pure _) w = _
    simp only [Sem.run_bind]
    exact (congrArg (fun r => Result.andThen r _) hrun').trans rfl
  refine ⟨_, hres, ?_⟩
  match l, vs, hr with
  | [], [], hr => exact .tup [] [] rfl hr.2
  | [a], [u], hr => exact hr.2 0 a u rfl rfl
  | a :: b :: l, u1 :: u2 :: vs, hr => 
    have : ¬ ((u1 :: u2 :: vs).toArray.size = 1) := by simp
    rw [dif_neg this]
    exact .tup _ _ hr.1 hr.2
  | [], _ :: _, hr => have := hr.1; simp at this
  | [_], [], hr => have := hr.1; simp at this
  | [_], _ :: _ :: _, hr => have := hr.1; simp at this
  | _ :: _ :: _, [], hr => have := hr.1; simp at this
  | _ :: _ :: _, [_], hr => have := hr.1; simp at this

theorem enter_get (fn : Func) (args : List AV) (k : Nat) : (T.enter fn args).get k = (args[k]?).getD .undef := rfl

theorem SCall_of_body (hC : COk C) {f : FuncId} {fn : Func} {c : Code} {args : List AV} {σ : AS} {Q : AV → AS → Prop} (hF : C.F f = some fn) (hb : fn.body = some c)
    (h : wpA C f c (RetQ C fn Q) (T.enter fn args) σ) : SCall C f args σ Q := by
  intro B w0 E w vs W hr
  have hlen : vs.toArray.size = args.length := by simp [hr.1]
  have HT : TRel E w (T.enter fn args) (vs.toArray ++ Array.replicate (fn.ntmps - vs.toArray.size) undef) := by
    refine ⟨by simp [T.enter, hr.1], fun k => ?_⟩
    rw [enter_get]
    by_cases hk : k < args.length
    · have hk' : k < vs.length := by rw [← hr.1]; exact hk
      have : (vs.toArray ++ Array.replicate (fn.ntmps - vs.toArray.size) undef).getD k undef = vs[k] := by
        rw [Array.getD_eq_getD_getElem?, Array.getElem?_append_left (by simpa using hk')]
        simp [hk']
      rw [this, List.getElem?_eq_getElem hk]
      exact hr.2 k args[k] vs[k] (by rw [List.getElem?_eq_getElem hk]) (by rw [List.getElem?_eq_getElem hk'])
    · rw [List.getElem?_eq_none (by omega)]
      exact .undef _
  refine calls_of_wp (hC.fn f fn hF).1 hb (wp_mono (wpA_ok hC c _ _ σ E E w w ⟨_, []⟩ h W HT (Ext.refl E w) rfl) fun e a' w' hq => ?_)
  obtain ⟨x, hx, t', σ', E', hq, W', x', HT', hd⟩ := hq
  have fin : ∀ v, retA C σ' t' fn.results.toList = some v → Q v σ' → a'.defers = [] ∧ ∃ v', (results fn a'.tmps).run C.P w' = .ok v' w' ∧
      ∃ v σ' E' v'', Ending.returned v' = .returned v'' ∧ Q v σ' ∧ WRel C B w0 E' σ' w' ∧ Ext E w E' w' ∧ Rep E' w' v v'' := fun v hv hqv => by
    obtain ⟨v', hrun, hrep⟩ := retA_ok hC W' HT' hv
    exact ⟨hd, v', hrun, v, σ', E', v', rfl, hqv, W', x', hrep⟩
  cases e <;> simp only [exOf, Option.some.injEq, reduceCtorEq] at hx <;> subst hx <;> simp only [RetQ] at hq
  · split at hq
    · rename_i v hv; exact fin v hv hq
    · exact hq.elim
  · split at hq
    · rename_i v hv; exact fin v hv hq
    · exact hq.elim
end
end Go.W
