/- What is carried out on abstract values holds of the machine. Conditions: none. -/
import Derived.Test.YtjnomlphjnnbnaaGreatDoorX2
set_option linter.unusedVariables false
set_option linter.unusedSimpArgs false
namespace Go.W
open Go.RowKit (Below)

theorem opsL_cons {C : Ctx} {mq : Bool} {ops : Array Oper} {Q : T → AS → Prop} {o : Oper} {r : List Oper} {t : T} {σ : AS} : opsL C mq ops Q (o :: r) t σ = doA C mq ops o t σ (opsL C mq ops Q r) := rfl

theorem xWanted_ok (ops : Array Oper) (t : TT) (o : Oper) : xWanted ops t o = wantedA ops t.T o := rfl

def CallOk (C : Ctx) (call : CallF) : Prop := ∀ g args s v s', call g args s = some (v, s') → SCall C g args s.as fun a b => a = v ∧ b = s'.as

theorem xOp_ok {C : Ctx} {call : CallF} (hcall : CallOk C call) {mq : Bool} {ops : Array Oper} {o : Oper} {t t' : TT} {s s' : St} (h : xOp C call mq ops o t s = some (t', s')) {K : T → AS → Prop} (hK : K t'.T s'.as) : doA C mq ops o t.T s.as K := by
  unfold xOp at h
  unfold doA
  rw [← xWanted_ok]
  split at h
  · simp at h
  · rename_i hw
    simp only [hw]
    split at h
    · rename_i u hu
      simp only [Option.some.injEq, Prod.mk.injEq] at h
      obtain ⟨rfl, rfl⟩ := h
      rw [TT.put_ok hu]; exact hK
    · simp at h
  · rename_i hw
    simp only [hw]
    split at h
    · simp at h
    · rename_i v s1 hf
      have := fOp_ok hf
      simp only [FNext.a] at this
      rw [this]
      split at h
      · rename_i u hu
        simp only [Option.some.injEq, Prod.mk.injEq] at h
        obtain ⟨rfl, rfl⟩ := h
        simp only [TT.put_ok hu]; exact hK
      · simp at h
    · rename_i g args hf
      have := fOp_ok hf
      simp only [FNext.a] at this
      rw [this]
      split at h
      · rename_i v s1 hc
        split at h
        · rename_i u hu
          simp only [Option.some.injEq, Prod.mk.injEq] at h
          obtain ⟨rfl, rfl⟩ := h
          refine (hcall g args s v s1 hc).mono fun a b hab => ?_
          obtain ⟨rfl, rfl⟩ := hab
          rw [TT.put_ok hu]; exact hK
        · simp at h
      · simp at h

theorem xOps_ok {C : Ctx} {call : CallF} (hcall : CallOk C call) {mq : Bool} {ops : Array Oper} {Q : T → AS → Prop} : ∀ {l : List Oper} {t t' : TT} {s s' : St}, xOps C call mq ops l t s = some (t', s') → Q t'.T s'.as → opsL C mq ops Q l t.T s.as
  | [], t, t', s, s', h, hq => by
    simp only [xOps, Option.some.injEq, Prod.mk.injEq] at h
    obtain ⟨rfl, rfl⟩ := h
    exact hq
  | o :: r, t, t', s, s', h, hq => by
    simp only [xOps] at h
    split at h
    · rename_i t1 s1 h1
      rw [opsL_cons]
      exact xOp_ok hcall h1 (xOps_ok hcall h hq)
    · simp at h

theorem fval_quiet {s : St} {o : Option AV} {r : FNext} (h : fval s o = some r) : ∃ v, r = .val v s := by
  cases o <;> simp only [fval, reduceCtorEq, Option.some.injEq] at h
  exact ⟨_, h.symm⟩

theorem fOp_quiet {C : Ctx} {mq : Bool} {t : TT} {s : St} {o : Op} {r : FNext} (ha : activeOp C o = false) (h : fOp C mq t s o = some r) : ∃ v, r = .val v s := by
  unfold fOp at h
  split at h <;> simp only [activeOp, Bool.true_eq_false, reduceCtorEq] at ha
  case h_1 => exact fval_quiet h
  case h_2 => exact fval_quiet h
  case h_3 =>
    simp only [Option.bind_eq_some_iff] at h
    obtain ⟨c, hc, h⟩ := h
    split at h
    · exact fval_quiet h
    · simp at h
  case h_6 => exact fval_quiet h
  case h_7 => exact fval_quiet h
  case h_10 =>
    simp only [Option.bind_eq_some_iff] at h
    obtain ⟨c, hc, h⟩ := h
    split at h <;> simp only [Option.some.injEq, reduceCtorEq] at h <;> exact ⟨_, h.symm⟩
  case h_14 =>
    simp only [Option.bind_eq_some_iff, Option.some.injEq] at h
    obtain ⟨x, hx, y, hy, rfl⟩ := h
    exact ⟨_, rfl⟩
  case h_17 =>
    rename_i ty x lo hi
    rw [Option.bind_eq_some_iff] at h
    obtain ⟨x, hx, h⟩ := h
    rw [Option.bind_eq_some_iff] at h
    obtain ⟨lo, hlo, h⟩ := h
    rw [Option.bind_eq_some_iff] at h
    obtain ⟨hi, hhi, h⟩ := h
    unfold fSliceAny at h
    split at ha
    · simp at ha
    · rename_i hk
      split at h
      · rename_i hk'; exact absurd hk' (hk _ _)
      · simp only [fval2] at h
        split at h
        · rename_i v s' hs
          split at hs
          · simp only [Option.some.injEq, Prod.mk.injEq] at hs
            obtain ⟨rfl, rfl⟩ := hs
            simp only [Option.some.injEq] at h
            exact ⟨_, h.symm⟩
          · simp at hs
        · simp at h
  case h_26 =>
    rename_i b args argTypes
    simp only [Option.bind_eq_some_iff] at h
    obtain ⟨as, has, h⟩ := h
    simp only [fval2] at h
    split at h
    · rename_i v s' hs
      simp only [Option.some.injEq] at h
      unfold fBuiltin at hs
      split at hs <;> simp only [Bool.true_eq_false, reduceCtorEq, Option.map_eq_some_iff, Prod.mk.injEq] at ha hs <;> obtain ⟨n, hn, rfl, rfl⟩ := hs <;> exact ⟨_, h.symm⟩
    · simp at h
  all_goals first
    | (simp at h; done)
    | (simp only [Option.bind_eq_some_iff] at h
       first
       | (obtain ⟨x, hx, h⟩ := h; exact fval_quiet h)
       | (obtain ⟨x, hx, y, hy, h⟩ := h; exact fval_quiet h))

theorem xAgain_ok {C : Ctx} {mq : Bool} {ops : Array Oper} {t : TT} {s : St} {j : Nat} (h : xAgain C mq ops t s j = true) : match ops[j]? with | some oj => again C mq ops oj t.T s.as | none => False := by
  unfold xAgain at h
  split at h
  · simp at h
  · rename_i o ho
    simp only [ho]
    simp only [Bool.and_eq_true, Bool.not_eq_true'] at h
    obtain ⟨ha, h⟩ := h
    unfold again
    split at h
    · rename_i d hd
      simp only [hd]
      simp only [Bool.and_eq_true] at h
      obtain ⟨hn, h⟩ := h
      refine ⟨(by simpa [Nat.blt_eq] using hn : d < t.n), ?_⟩
      unfold quiet
      rw [← xWanted_ok]
      split at h
      · simp at h
      · rename_i hw; exact .inl ⟨hw, sameV_eq _ _ h⟩
      · rename_i hw
        split at h
        · rename_i v s' hf
          obtain ⟨v', hv'⟩ := fOp_quiet ha hf
          cases hv'
          have := fOp_ok hf
          rw [show t.T.get d = v from sameV_eq _ _ h]
          exact .inr ⟨hw, this⟩
        · simp at h
    · rename_i hd
      simp only [hd]
      unfold quiet
      rw [← xWanted_ok]
      split at h
      · simp at h
      · rename_i hw; exact ⟨.tup [], .inl ⟨hw, rfl⟩⟩
      · rename_i hw
        split at h
        · rename_i v s' hf
          obtain ⟨v', hv'⟩ := fOp_quiet ha hf
          cases hv'
          exact ⟨v, .inr ⟨hw, fOp_ok hf⟩⟩
        · simp at h

theorem xPlan_ok {C : Ctx} {call : CallF} (hcall : CallOk C call) {mq : Bool} {ops : Array Oper} {Q : T → AS → Prop} : ∀ {l : List (Nat × Option (List Nat))} {t t' : TT} {s s' : St}, xPlan C call mq ops l t s = some (t', s') → Q t'.T s'.as → canonW C mq ops Q l t.T s.as
  | [], t, t', s, s', h, hq => by
    simp only [xPlan, Option.some.injEq, Prod.mk.injEq] at h
    obtain ⟨rfl, rfl⟩ := h
    exact hq
  | (i, k) :: r, t, t', s, s', h, hq => by
    simp only [xPlan] at h
    split at h
    · simp at h
    · rename_i o ho
      split at h
      · split at h
        · simp at h
        · rename_i ha
          split at h
          · rename_i t1 s1 h1
            simp only [canonW, ho]
            rw [← xWanted_ok]
            unfold xOp at h1
            split at h1
            · simp at h1
            · rename_i hw
              simp only [hw]
              split at h1
              · rename_i u hu
                simp only [Option.some.injEq, Prod.mk.injEq] at h1
                obtain ⟨rfl, rfl⟩ := h1
                rw [TT.put_ok hu]; exact xPlan_ok hcall h hq
              · simp at h1
            · rename_i hw
              simp only [hw]
              split at h1
              · simp at h1
              · rename_i v s2 hf
                obtain ⟨v', hv'⟩ := fOp_quiet ha hf
                cases hv'
                have := fOp_ok hf
                simp only [FNext.a] at this
                rw [this]
                split at h1
                · rename_i u hu
                  simp only [Option.some.injEq, Prod.mk.injEq] at h1
                  obtain ⟨rfl, rfl⟩ := h1
                  simp only [TT.put_ok hu]; exact ⟨trivial, xPlan_ok hcall h hq⟩
                · simp at h1
              · rename_i g args hf
                obtain ⟨v', hv'⟩ := fOp_quiet ha hf
                cases hv'
          · simp at h
      · rename_i pl
        split at h
        · rename_i t1 s1 h1
          split at h
          · rename_i hall
            simp only [canonW, ho]
            refine xOp_ok hcall h1 ⟨fun j hj => xAgain_ok (List.all_eq_true.1 hall j hj), xPlan_ok hcall h hq⟩
          · simp at h
        · simp at h

/-! Scopes. -/

def wpIn (P : Program) (b c : Code) (Q : Exit → Act → World → Prop) (a : Act) (w : World) : Prop :=
  ∀ (fr : Frame) (k : List Item) (cs : List Frame), ∃ e a' w', Q e a' w' ∧ Arrives P (lone (fr.at a (.code c :: .inScope b :: k)) cs w) fr k cs e a' w'

def inScopeQ (P : Program) (b : Code) (Q : Exit → Act → World → Prop) (e : Exit) (a : Act) (w : World) : Prop := match e with
  | .goto l => ∃ rest, findLabel b l = some rest ∧ wpIn P b rest Q a w
  | e => Q e a w

theorem wpIn_of {P : Program} {b c : Code} {Q : Exit → Act → World → Prop} {a : Act} {w : World} (h : c.wp P (inScopeQ P b Q) a w) : wpIn P b c Q a w := by
  intro fr k cs
  obtain ⟨e, a₁, w₁, hq, harr⟩ := h fr (.inScope b :: k) cs
  cases e with
  | normal => exact ⟨.normal, a₁, w₁, hq, Steps.trans harr (.one step_inScope)⟩
  | exit id => exact ⟨.exit id, a₁, w₁, hq, fun k' hk => harr k' (by simp [exitTo, hk])⟩
  | goto l =>
    obtain ⟨rest, hf, hrest⟩ := hq
    have hg : gotoIn l (.inScope b :: k) = some (.code rest :: .inScope b :: k) := by simp [gotoIn, hf]
    obtain ⟨e₂, a₂, w₂, hq₂, harr₂⟩ := hrest fr k cs
    exact ⟨e₂, a₂, w₂, hq₂, .of_steps (harr _ hg) harr₂⟩
  | ret => exact ⟨_, a₁, w₁, hq, harr⟩
  | panic ch => exact ⟨_, a₁, w₁, hq, harr⟩
  | outgrown => exact ⟨_, a₁, w₁, hq, harr⟩

theorem wp_of_wpIn {P : Program} {b : Code} {Q : Exit → Act → World → Prop} {a : Act} {w : World} (h : wpIn P b b Q a w) : (Code.scope b).wp P Q a w := by
  intro fr k cs
  obtain ⟨e, a₁, w₁, hq, harr⟩ := h fr k cs
  exact ⟨e, a₁, w₁, hq, .of_steps (.one step_scope) harr⟩

/-! Loops. -/

def wpLp (P : Program) (c : Code) (Q : Exit → Act → World → Prop) (a : Act) (w : World) : Prop :=
  ∀ (fr : Frame) (k : List Item) (cs : List Frame), ∃ e a' w', Q e a' w' ∧ Arrives P (lone (fr.at a (.code c :: .inLoop c :: k)) cs w) fr k cs e a' w'

theorem wpLp_of {P : Program} {c : Code} {Q : Exit → Act → World → Prop} {a : Act} {w : World} (h : c.wp P (Exit.then (wpLp P c Q) Q) a w) : wpLp P c Q a w := by
  intro b k cs
  obtain ⟨e, a₁, w₁, hq, harr⟩ := h b (.inLoop c :: k) cs
  cases e with
  | normal =>
    obtain ⟨e₂, a₂, w₂, hq₂, harr₂⟩ := hq b k cs
    exact ⟨e₂, a₂, w₂, hq₂, .of_steps (Steps.trans harr (.one step_inLoop)) harr₂⟩
  | exit id => exact ⟨_, a₁, w₁, hq, .pass (x := .inLoop c) rfl (fun _ _ => .inl (by simp)) harr⟩
  | goto l => exact ⟨_, a₁, w₁, hq, .pass (x := .inLoop c) rfl (fun _ _ => .inl (by simp)) harr⟩
  | ret => exact ⟨_, a₁, w₁, hq, .pass (x := .inLoop c) rfl (fun _ _ => .inl (by simp)) harr⟩
  | panic ch => exact ⟨_, a₁, w₁, hq, .pass (x := .inLoop c) rfl (fun _ _ => .inl (by simp)) harr⟩
  | outgrown => exact ⟨_, a₁, w₁, hq, .pass (x := .inLoop c) rfl (fun _ _ => .inl (by simp)) harr⟩

theorem wp_of_wpLp {P : Program} {c : Code} {Q : Exit → Act → World → Prop} {a : Act} {w : World} (h : wpLp P c Q a w) : (Code.loop c).wp P Q a w := by
  intro b k cs
  obtain ⟨e, a', w', hq, harr⟩ := h b k cs
  exact ⟨e, a', w', hq, .of_steps (.one step_loop) harr⟩

/-- As wp; of a loop, from its round on. -/
def cwp (P : Program) (c : Code) (Q : Exit → Act → World → Prop) (a : Act) (w : World) : Prop := match c with
  | .loop b => wpLp P b Q a w
  | c => c.wp P Q a w

theorem cwp_wp {P : Program} {c : Code} {Q : Exit → Act → World → Prop} {a : Act} {w : World} (h : cwp P c Q a w) : c.wp P Q a w := by
  cases c <;> first | exact h | exact wp_of_wpLp h

/-! Calls. -/

theorem SCall_of_wp {C : Ctx} (hC : COk C) {f : FuncId} {fn : Func} {c : Code} {args : List AV} {σ : AS} {Q : AV → AS → Prop} (hF : C.F f = some fn) (hb : fn.body = some c)
    (h : ∀ (B : Nat) (w0 : World) (E : Env) (w : World) (a : Act), WRel C B w0 E σ w → TRel E w (T.enter fn args) a.tmps → a.defers = [] → c.wp C.P (AfterX C B w0 E w [] (RetQ C fn Q)) a w) : SCall C f args σ Q := by
  intro B w0 E w vs W hr
  have hlen : vs.toArray.size = args.length := by simp [hr.1]
  have HT : TRel E w (T.enter fn args) (vs.toArray ++ Array.replicate (fn.ntmps - vs.toArray.size) undef) := by
    refine ⟨by simp [T.enter, hr.1], fun k => ?_⟩
    rw [enter_get]
    by_cases hk : k < args.length
    · have hk' : k < vs.length := by rw [← hr.1]; exact hk
      have : (vs.toArray ++ Array.replicate (fn.ntmps - vs.toArray.size) undef).getD k undef = vs[k] := by
        rw [Array.getD_eq_getD_getElem?, Array.getElem?_append_left (by simpa using hk')]
        simp [hk']
      rw [this, List.getElem?_eq_getElem hk]
      exact hr.2 k args[k] vs[k] (by rw [List.getElem?_eq_getElem hk]) (by rw [List.getElem?_eq_getElem hk'])
    · rw [List.getElem?_eq_none (by omega)]
      exact .undef _
  refine calls_of_wp (hC.fn f fn hF).1 hb (wp_mono (h B w0 E w ⟨_, []⟩ W HT rfl) fun e a' w' hq => ?_)
  obtain ⟨x, hx, t', σ', E', hq, W', x', HT', hd⟩ := hq
  have fin : ∀ v, retA C σ' t' fn.results.toList = some v → Q v σ' → a'.defers = [] ∧ ∃ v', (results fn a'.tmps).run C.P w' = .ok v' w' ∧
      ∃ v σ' E' v'', Ending.returned v' = .returned v'' ∧ Q v σ' ∧ WRel C B w0 E' σ' w' ∧ Ext E w E' w' ∧ Rep E' w' v v'' := fun v hv hqv => by
    obtain ⟨v', hrun, hrep⟩ := retA_ok hC W' HT' hv
    exact ⟨hd, v', hrun, v, σ', E', v', rfl, hqv, W', x', hrep⟩
  cases e <;> simp only [exOf, Option.some.injEq, reduceCtorEq] at hx <;> subst hx <;> simp only [RetQ] at hq
  · split at hq
    · rename_i v hv; exact fin v hv hq
    · exact hq.elim
  · split at hq
    · rename_i v hv; exact fin v hv hq
    · exact hq.elim

theorem trOf_get : ∀ (l : List AV) (k : Nat) (t : Tr AV) (j : Nat), (trOf l k t).get .undef j = if k ≤ j ∧ j < k + l.length then (l[j - k]?).getD .undef else t.get .undef j
  | [], k, t, j => by simp only [trOf, List.length_nil]; rw [if_neg (by omega)]
  | v :: r, k, t, j => by
    simp only [trOf, List.length_cons]
    rw [trOf_get r (k + 1) _ j, Tr.get_set]
    by_cases hj : j = k
    · subst hj
      rw [if_neg (by omega), if_pos rfl, if_pos (by omega)]
      simp
    · by_cases h2 : k + 1 ≤ j ∧ j < k + 1 + r.length
      · rw [if_pos h2, if_pos (by omega)]
        have : j - k = (j - (k + 1)) + 1 := by omega
        rw [this]; simp
      · rw [if_neg h2, if_neg hj, if_neg (by omega)]

theorem enter_ok (fn : Func) (args : List AV) : (TT.enter fn args).T = T.enter fn args := by
  refine T.ext' rfl fun j => ?_
  show (trOf args 0 .e).get .undef j = (args[j]?).getD .undef
  rw [trOf_get]
  by_cases h : j < args.length
  · rw [if_pos (by omega)]; rfl
  · rw [if_neg (by omega), List.getElem?_eq_none (by omega)]; rfl

theorem fResA_ok (C : Ctx) (s : St) (t : TT) : ∀ (rs : List ResultVar), fResA C s t rs = resA C s.as t.T rs
  | [] => rfl
  | .tmp k :: r => by simp only [fResA, resA, fResA_ok C s t r]; rfl
  | .cell k ty :: r => by simp only [fResA, resA, fResA_ok C s t r, fRow_ok, gLoad_ok]; rfl

theorem fRetA_ok {C : Ctx} {s : St} {t : TT} {rs : List ResultVar} {v : AV} (h : fRetA C s t rs = some v) : retA C s.as t.T rs = some v := by
  unfold fRetA at h
  unfold retA
  rw [fResA_ok] at h
  split at h
  · simp at h
  · rename_i u hu; simp only [Option.some.injEq] at h; subst h; rw [hu]; rfl
  · rename_i l hu hl
    simp only [Option.some.injEq] at h; subst h
    rw [hl]
    simp only [Option.map_some, Option.some.injEq]

def Is (e : Ex) (t : TT) (s : St) (e' : Ex) (τ : T) (σ : AS) : Prop := e' = e ∧ τ = t.T ∧ σ = s.as

theorem AfterX.is {C : Ctx} {B : Nat} {w0 : World} {E : Env} {w : World} {d : List Deferred} {e : Ex} {t : TT} {s : St} {x : Exit} {a : Act} {w' : World} (h : AfterX C B w0 E w d (Is e t s) x a w') :
    exOf x = some e ∧ ∃ E', WRel C B w0 E' s.as w' ∧ Ext E w E' w' ∧ TRel E' w' t.T a.tmps ∧ a.defers = d := by
  obtain ⟨y, hy, τ, σ, E', ⟨rfl, rfl, rfl⟩, h1, h2, h3, h4⟩ := h
  exact ⟨hy, E', h1, h2, h3, h4⟩

theorem AfterX.mk' {C : Ctx} {B : Nat} {w0 : World} {E : Env} {w : World} {d : List Deferred} {e : Ex} {t : TT} {s : St} {x : Exit} {a : Act} {w' : World} {E' : Env} (hx : exOf x = some e) (h1 : WRel C B w0 E' s.as w') (h2 : Ext E w E' w') (h3 : TRel E' w' t.T a.tmps) (h4 : a.defers = d) :
    AfterX C B w0 E w d (Is e t s) x a w' := ⟨e, hx, _, _, E', ⟨rfl, rfl, rfl⟩, h1, h2, h3, h4⟩

/-- What a run says of the machine. -/
def Holds (C : Ctx) (sc : Option Code) (c : Code) (t : TT) (s : St) (e : Ex) (t' : TT) (s' : St) : Prop :=
  ∀ (B : Nat) (w0 : World) (d : List Deferred) (E0 E : Env) (ww w : World) (a : Act), WRel C B w0 E s.as w → TRel E w t.T a.tmps → Ext E0 ww E w → a.defers = d →
    match sc with
    | none => cwp C.P c (AfterX C B w0 E0 ww d (Is e t' s')) a w
    | some b => wpIn C.P b c (AfterX C B w0 E0 ww d (Is e t' s')) a w

theorem Holds.call {C : Ctx} (hC : COk C) {g : FuncId} {fn : Func} {c : Code} {args : List AV} {s s' : St} {t' : TT} {e : Ex} {v : AV} (hF : C.F g = some fn) (hb : fn.body = some c)
    (h : Holds C none c (TT.enter fn args) s e t' s') (he : e = .normal ∨ e = .ret) (hv : fRetA C s' t' fn.results.toList = some v) : SCall C g args s.as fun a b => a = v ∧ b = s'.as := by
  refine SCall_of_wp hC hF hb fun B w0 E w a W HT hd => ?_
  refine wp_mono (cwp_wp (h B w0 [] E E w w a W (by rw [enter_ok]; exact HT) (Ext.refl E w) hd)) fun x a' w' hq => ?_
  obtain ⟨hx, E', h1, h2, h3, h4⟩ := hq.is
  refine ⟨e, hx, t'.T, s'.as, E', ?_, h1, h2, h3, h4⟩
  rcases he with rfl | rfl <;> simp only [RetQ, fRetA_ok hv] <;> simp

theorem Holds.of_wpA {C : Ctx} (hC : COk C) {f : FuncId} {c : Code} {t t' : TT} {s s' : St} {e : Ex} (hl : ∀ p, c ≠ .loop p) (h : wpA C f c (Is e t' s') t.T s.as) : Holds C none c t s e t' s' :=
  fun B w0 d E0 E ww w a W HT x hd => by
    have := wpA_ok hC c _ _ _ E0 E ww w a h W HT x hd
    cases c <;> first | exact this | exact absurd rfl (hl _)

/-- What is told of calls beforehand holds, whatever store there is. -/
def MemoOk (C : Ctx) : Prop := ∀ g args v, C.memo g args = some v → ∀ σ, SCall C g args σ fun a b => a = v ∧ b = σ
theorem memo_none {C : Ctx} (h : ∀ g args, C.memo g args = none) : MemoOk C := fun g args v hm => by rw [h] at hm; cases hm

theorem exec_ok {C : Ctx} (hC : COk C) (hM : MemoOk C) : ∀ (n : Nat) (f : FuncId) (sc : Option Code) (c : Code) (t : TT) (s : St) (e : Ex) (t' : TT) (s' : St), exec C n f sc c t s = some (e, t', s') → Holds C sc c t s e t' s'
  | 0, f, sc, c, t, s, e, t', s', h => by simp [exec] at h
  | n + 1, f, some b, c, t, s, e, t', s', h => by
    have ih := exec_ok hC hM n
    intro B w0 d E0 E ww w a W HT x hd
    simp only [exec] at h
    refine wpIn_of ?_
    split at h
    · rename_i l t1 s1 h1
      split at h
      · rename_i rest hrest
        refine wp_mono (cwp_wp (ih f none c t s _ _ _ h1 B w0 d E0 E ww w a W HT x hd)) fun y a1 w1 hq => ?_
        obtain ⟨hy, E', g1, g2, g3, g4⟩ := hq.is
        cases y <;> simp only [exOf, Option.some.injEq, reduceCtorEq, Ex.goto.injEq] at hy
        subst hy
        exact ⟨rest, hrest, ih f (some b) rest t1 s1 _ _ _ h B w0 d E0 E' ww w1 a1 g1 g3 g2 g4⟩
      · simp at h
    · rename_i hne
      refine wp_mono (cwp_wp (ih f none c t s _ _ _ h B w0 d E0 E ww w a W HT x hd)) fun y a1 w1 hq => ?_
      obtain ⟨hy, _⟩ := hq.is
      cases y <;> simp only [exOf, Option.some.injEq, reduceCtorEq] at hy
      · exact hq
      · exact hq
      · rename_i l; subst hy; exact absurd h (hne l t' s')
      · exact hq
  | n + 1, f, none, c, t, s, e, t', s', h => by
    have ih := exec_ok hC hM n
    cases c with
    | skip =>
      simp only [exec, Option.some.injEq, Prod.mk.injEq] at h; obtain ⟨rfl, rfl, rfl⟩ := h
      exact Holds.of_wpA (f := f) hC (by intro p hp; cases hp) (by simp only [wpA]; exact ⟨rfl, rfl, rfl⟩)
    | label l =>
      simp only [exec, Option.some.injEq, Prod.mk.injEq] at h; obtain ⟨rfl, rfl, rfl⟩ := h
      exact Holds.of_wpA (f := f) hC (by intro p hp; cases hp) (by simp only [wpA]; exact ⟨rfl, rfl, rfl⟩)
    | exit id =>
      simp only [exec, Option.some.injEq, Prod.mk.injEq] at h; obtain ⟨rfl, rfl, rfl⟩ := h
      exact Holds.of_wpA (f := f) hC (by intro p hp; cases hp) (by simp only [wpA]; exact ⟨rfl, rfl, rfl⟩)
    | goto l =>
      simp only [exec, Option.some.injEq, Prod.mk.injEq] at h; obtain ⟨rfl, rfl, rfl⟩ := h
      exact Holds.of_wpA (f := f) hC (by intro p hp; cases hp) (by simp only [wpA]; exact ⟨rfl, rfl, rfl⟩)
    | ret =>
      simp only [exec, Option.some.injEq, Prod.mk.injEq] at h; obtain ⟨rfl, rfl, rfl⟩ := h
      exact Holds.of_wpA (f := f) hC (by intro p hp; cases hp) (by simp only [wpA]; exact ⟨rfl, rfl, rfl⟩)
    | seq p q =>
      intro B w0 d E0 E ww w a W HT x hd
      simp only [exec] at h
      refine wp_seq ?_
      split at h
      · rename_i t1 s1 h1
        refine wp_mono (cwp_wp (ih f none p t s _ _ _ h1 B w0 d E0 E ww w a W HT x hd)) fun y a1 w1 hq => ?_
        obtain ⟨hy, E', g1, g2, g3, g4⟩ := hq.is
        cases y <;> simp only [exOf, Option.some.injEq, reduceCtorEq] at hy
        exact cwp_wp (ih f none q t1 s1 _ _ _ h B w0 d E0 E' ww w1 a1 g1 g3 g2 g4)
      · rename_i hne
        refine wp_mono (cwp_wp (ih f none p t s _ _ _ h B w0 d E0 E ww w a W HT x hd)) fun y a1 w1 hq => ?_
        obtain ⟨hy, _⟩ := hq.is
        cases y <;> simp only [exOf, Option.some.injEq, reduceCtorEq] at hy
        · subst hy; exact absurd h (hne t' s')
        · exact hq
        · exact hq
        · exact hq
    | cond o p q =>
      intro B w0 d E0 E ww w a W HT x hd
      simp only [exec] at h
      split at h
      · rename_i hc
        have hr := ev_rep W HT (by rw [← fev_ok]; exact hc)
        have hv : a.eval o = .bool true := by generalize a.eval o = y at hr; cases hr; rfl
        exact wp_cond_true hv (cwp_wp (ih f none p t s _ _ _ h B w0 d E0 E ww w a W HT x hd))
      · rename_i hc
        have hr := ev_rep W HT (by rw [← fev_ok]; exact hc)
        have hv : a.eval o = .bool false := by generalize a.eval o = y at hr; cases hr; rfl
        exact wp_cond_false hv (cwp_wp (ih f none q t s _ _ _ h B w0 d E0 E ww w a W HT x hd))
      · simp at h
    | block id p =>
      intro B w0 d E0 E ww w a W HT x hd
      simp only [exec] at h
      refine wp_block ?_
      split at h
      · rename_i id' t1 s1 h1
        refine wp_mono (cwp_wp (ih f none p t s _ _ _ h1 B w0 d E0 E ww w a W HT x hd)) fun y a1 w1 hq => ?_
        obtain ⟨hy, E', g1, g2, g3, g4⟩ := hq.is
        cases y <;> simp only [exOf, Option.some.injEq, reduceCtorEq, Ex.exit.injEq] at hy
        subst hy
        rename_i id'
        simp only [Exit.inBlock]
        split at h
        · rename_i hb
          have hb' : id' = id := Nat.eq_of_beq_eq_true hb
          rw [if_pos hb']
          simp only [Option.some.injEq, Prod.mk.injEq] at h; obtain ⟨rfl, rfl, rfl⟩ := h
          exact AfterX.mk' rfl g1 g2 g3 g4
        · rename_i hb
          have hb' : ¬ id' = id := fun e => by subst e; simp at hb
          rw [if_neg hb']
          simp only [Option.some.injEq, Prod.mk.injEq] at h; obtain ⟨rfl, rfl, rfl⟩ := h
          exact hq
      · rename_i hne
        refine wp_mono (cwp_wp (ih f none p t s _ _ _ h B w0 d E0 E ww w a W HT x hd)) fun y a1 w1 hq => ?_
        obtain ⟨hy, _⟩ := hq.is
        cases y <;> simp only [exOf, Option.some.injEq, reduceCtorEq] at hy
        · exact hq
        · rename_i id'; subst hy; exact absurd h (hne id' t' s')
        · exact hq
        · exact hq
    | loop p =>
      intro B w0 d E0 E ww w a W HT x hd
      simp only [exec] at h
      split at h
      · rename_i t1 s1 h1
        refine wpLp_of (wp_mono (cwp_wp (ih f none p t s _ _ _ h1 B w0 d E0 E ww w a W HT x hd)) fun y a1 w1 hq => ?_)
        obtain ⟨hy, E', g1, g2, g3, g4⟩ := hq.is
        cases y <;> simp only [exOf, Option.some.injEq, reduceCtorEq] at hy
        exact ih f none (.loop p) t1 s1 _ _ _ h B w0 d E0 E' ww w1 a1 g1 g3 g2 g4
      · rename_i hne
        refine wpLp_of (wp_mono (cwp_wp (ih f none p t s _ _ _ h B w0 d E0 E ww w a W HT x hd)) fun y a1 w1 hq => ?_)
        obtain ⟨hy, _⟩ := hq.is
        cases y <;> simp only [exOf, Option.some.injEq, reduceCtorEq] at hy
        · subst hy; exact absurd h (hne t' s')
        · exact hq
        · exact hq
        · exact hq
    | scope p =>
      intro B w0 d E0 E ww w a W HT x hd
      simp only [exec] at h
      exact wp_of_wpIn (ih f (some p) p t s _ _ _ h B w0 d E0 E ww w a W HT x hd)
    | region id ops draw =>
      simp only [exec] at h
      generalize hcf : callW C (exec C n) = call at h
      have hcall : CallOk C call := by
        intro g args s v s' hc
        subst hcf
        unfold callW at hc
        split at hc
        · rename_i v' hm
          simp only [Option.some.injEq, Prod.mk.injEq] at hc; obtain ⟨rfl, rfl⟩ := hc
          exact hM _ _ _ hm _
        split at hc
        · simp at hc
        · rename_i fn hF
          split at hc
          · simp at hc
          · rename_i c hb
            split at hc
            · rename_i t1 s1 h1
              split at hc
              · rename_i u hu
                simp only [Option.some.injEq, Prod.mk.injEq] at hc; obtain ⟨rfl, rfl⟩ := hc
                exact (ih g none c _ s _ _ _ h1).call hC hF hb (.inl rfl) hu
              · simp at hc
            · rename_i t1 s1 h1
              split at hc
              · rename_i u hu
                simp only [Option.some.injEq, Prod.mk.injEq] at hc; obtain ⟨rfl, rfl⟩ := hc
                exact (ih g none c _ s _ _ _ h1).call hC hF hb (.inr rfl) hu
              · simp at hc
            · simp at hc
      split at h
      · split at h
        · rename_i t1 s1 h1
          simp only [Option.some.injEq, Prod.mk.injEq] at h; obtain ⟨rfl, rfl, rfl⟩ := h
          exact Holds.of_wpA hC (by intro p hp; cases hp) (wp_reg (xOps_ok hcall h1 ⟨_, _, TLe.refl _, SLe.refl _, rfl, rfl, rfl⟩))
        · simp at h
      · split at h
        · simp at h
        · rename_i hok
          split at h
          · rename_i t1 s1 h1
            simp only [Option.some.injEq, Prod.mk.injEq] at h; obtain ⟨rfl, rfl, rfl⟩ := h
            exact Holds.of_wpA hC (by intro p hp; cases hp) (wp_draw _ hok (xPlan_ok hcall h1 ⟨_, _, TLe.refl _, SLe.refl _, rfl, rfl, rfl⟩))
          · simp at h
    | rangeFunc g ps p q => simp [exec] at h
    | refuse r => simp [exec] at h

/-- A call that is carried out. -/
theorem callF_ok {C : Ctx} (hC : COk C) (hM : MemoOk C) {n : Nat} {g : FuncId} {args : List AV} {s s' : St} {v : AV} (h : callF C n g args s = some (v, s')) : SCall C g args s.as fun a b => a = v ∧ b = s'.as := by
  unfold callF callW at h
  split at h
  · rename_i v' hm
    simp only [Option.some.injEq, Prod.mk.injEq] at h; obtain ⟨rfl, rfl⟩ := h
    exact hM _ _ _ hm _
  split at h
  · simp at h
  · rename_i fn hF
    split at h
    · simp at h
    · rename_i c hb
      split at h
      · rename_i t1 s1 h1
        split at h
        · rename_i u hu
          simp only [Option.some.injEq, Prod.mk.injEq] at h; obtain ⟨rfl, rfl⟩ := h
          exact (exec_ok hC hM _ _ _ _ _ _ _ _ _ h1).call hC hF hb (.inl rfl) hu
        · simp at h
      · rename_i t1 s1 h1
        split at h
        · rename_i u hu
          simp only [Option.some.injEq, Prod.mk.injEq] at h; obtain ⟨rfl, rfl⟩ := h
          exact (exec_ok hC hM _ _ _ _ _ _ _ _ _ h1).call hC hF hb (.inr rfl) hu
        · simp at h
      · simp at h

end Go.W
