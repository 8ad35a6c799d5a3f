/- Code, piece by piece: a calculus over abstract states, and that it holds of the machine. Conditions: none. -/
import Derived.Test.YtjnomlphjnnbnaaGreatDoorW13
import Derived.LoopN
import Derived.ScopeJumps
set_option linter.unusedVariables false
set_option linter.unusedSimpArgs false
namespace Go.W
open Go.RowKit (Below)

inductive Ex where
  | normal
  | exit (id : Nat)
  | goto (l : Nat)
  | ret

/-- A call, whatever the world: with these arguments and this store it returns a value and a store of which Q holds. -/
def SCall (C : Ctx) (f : FuncId) (args : List AV) (σ : AS) (Q : AV → AS → Prop) : Prop :=
  ∀ (B : Nat) (w0 : World) (E : Env) (w : World) (vs : List Value), WRel C B w0 E σ w → Reps E w args vs →
    Calls C.P f vs.toArray w fun e w' => ∃ v σ' E' v', e = .returned v' ∧ Q v σ' ∧ WRel C B w0 E' σ' w' ∧ Ext E w E' w' ∧ Rep E' w' v v'

theorem SCall.mono {C : Ctx} {f : FuncId} {args : List AV} {σ : AS} {Q Q' : AV → AS → Prop} (h : SCall C f args σ Q) (hq : ∀ v σ', Q v σ' → Q' v σ') : SCall C f args σ Q' :=
  fun B w0 E w vs W hr => (h B w0 E w vs W hr).mono fun e w' ⟨v, σ', E', v', h1, h2, h3⟩ => ⟨v, σ', E', v', h1, hq _ _ h2, h3⟩

/-- Is an operation carried out? -/
def wantedA (ops : Array Oper) (t : T) (o : Oper) : Option Bool := match o.guard with
  | none => some true
  | some (j, want) => match (ops[j]?).bind (·.dst) with
    | some d => (match t.get d with | .bool b => some (b == want) | .tup _ => some false | _ => none)
    | none => some false

/-- Operations, one behind the other. -/
def opsW (C : Ctx) (mq : Bool) (ops : Array Oper) (Q : T → AS → Prop) : List Nat → T → AS → Prop
  | [], t, σ => Q t σ
  | i :: r, t, σ => match ops[i]? with
    | none => opsW C mq ops Q r t σ
    | some o => match wantedA ops t o with
      | none => False
      | some false => (match t.put o.dst (.tup []) with | some t' => opsW C mq ops Q r t' σ | none => False)
      | some true => match aOp C mq t σ o.op with
        | none => False
        | some (.val v σ') => (match t.put o.dst v with | some t' => opsW C mq ops Q r t' σ' | none => False)
        | some (.enter f args) => SCall C f args σ fun v σ' => (match t.put o.dst v with | some t' => opsW C mq ops Q r t' σ' | none => False)

/-- The orders in which a region's operations may be carried out. -/
def Sched (ops : Array Oper) (l : List Nat) : Prop := ∃ t, l = Region.linearise .any ops t

/-- Fewer slots are told. -/
def TLe (t0 t : T) : Prop := t0.n = t.n ∧ ∀ k, t0.get k = .undef ∨ t0.get k = t.get k
theorem TLe.refl (t : T) : TLe t t := ⟨rfl, fun _ => .inr rfl⟩
theorem TLe.trel {E : Env} {w : World} {t0 t : T} {arr : Array Value} (h : TLe t0 t) (H : TRel E w t arr) : TRel E w t0 arr :=
  ⟨h.1.trans H.1, fun k => by
    rcases h.2 k with e | e
    · rw [e]; exact .undef _
    · rw [e]; exact H.2 k⟩
/-- Fewer objects are told. -/
def SLe (σ0 σ : AS) : Prop := σ0.length = σ.length ∧ ∀ id : Nat, σ0[id]? = some AObj.dead ∨ σ0[id]? = σ[id]?
theorem SLe.refl (σ : AS) : SLe σ σ := ⟨rfl, fun _ => .inr rfl⟩
theorem SLe.wrel {C : Ctx} {B : Nat} {w0 : World} {E : Env} {σ0 σ : AS} {w : World} (h : SLe σ0 σ) (W : WRel C B w0 E σ w) : WRel C B w0 E σ0 w := by
  constructor
  · exact W.below
  · exact W.size
  · exact W.imm
  · intro k o ho
    rcases h.2 k with e | e
    · rw [ho] at e; cases e; trivial
    · rw [ho] at e; exact W.obj k o e.symm
  · intro i1 i2 o1 o2 L1 L2 h1 h2 a1 a2
    rcases h.2 i1 with e1 | e1
    · rw [h1] at e1; cases e1; simp [alive] at a1
    · rcases h.2 i2 with e2 | e2
      · rw [h2] at e2; cases e2; simp [alive] at a2
      · rw [h1] at e1; rw [h2] at e2; exact W.inj i1 i2 o1 o2 L1 L2 e1.symm e2.symm a1 a2
  · intro k hk; exact W.fresh k (by have := h.1; omega)
  · exact W.glob
/-- Behind a region some slots and objects may be told of no more. -/
def Drop (Q : T → AS → Prop) (t : T) (σ : AS) : Prop := ∃ t0 σ0, TLe t0 t ∧ SLe σ0 σ ∧ Q t0 σ0

/-- What holds behind a piece of code. 'f': the function in which it stands. -/
def wpA (C : Ctx) (f : FuncId) : Code → (Ex → T → AS → Prop) → T → AS → Prop
  | .skip, Q, t, σ => Q .normal t σ
  | .label _, Q, t, σ => Q .normal t σ
  | .exit id, Q, t, σ => Q (.exit id) t σ
  | .goto l, Q, t, σ => Q (.goto l) t σ
  | .ret, Q, t, σ => Q .ret t σ
  | .seq a b, Q, t, σ => wpA C f a (fun e t σ => match e with | .normal => wpA C f b Q t σ | e => Q e t σ) t σ
  | .cond c a b, Q, t, σ => match ev C t c with
    | some (.bool true) => wpA C f a Q t σ
    | some (.bool false) => wpA C f b Q t σ
    | _ => False
  | .block id b, Q, t, σ => wpA C f b (fun e t σ => match e with | .exit id' => if id' = id then Q .normal t σ else Q (.exit id') t σ | e => Q e t σ) t σ
  | .loop b, Q, t, σ => ∃ n, roundsA (fun Q t σ => wpA C f b Q t σ) Q n t σ
  | .region id ops draw, Q, t, σ => if draw then ∀ l, Sched ops l → opsW C (C.rows f id) ops (Drop (Q .normal)) l t σ else opsW C (C.rows f id) ops (Drop (Q .normal)) (List.range ops.size) t σ
  | .scope b, Q, t, σ => wpA C f b (fun e t σ => match e with | .goto _ => False | e => Q e t σ) t σ
  | _, _, _, _ => False
where
  roundsA (b : (Ex → T → AS → Prop) → T → AS → Prop) (Q : Ex → T → AS → Prop) : Nat → T → AS → Prop
  | 0, _, _ => False
  | n + 1, t, σ => b (fun e t σ => match e with | .normal => roundsA b Q n t σ | e => Q e t σ) t σ

section
variable {C : Ctx} {B : Nat} {w0 : World}

theorem TRel.put {E : Env} {w : World} {t t' : T} {a : Act} {d : Option Nat} {v : AV} {v' : Value} (h : TRel E w t a.tmps) (hp : t.put d v = some t') (hr : Rep E w v v') : TRel E w t' (a.put d v').tmps := by
  cases d with
  | none => simp [T.put] at hp; subst hp; exact h
  | some k =>
    simp only [T.put] at hp
    split at hp
    · rename_i hk
      simp at hp; subst hp
      refine ⟨by simp [Act.put, T.set, h.1], fun j => ?_⟩
      by_cases hj : j = k
      · subst hj
        have : j < a.tmps.size := by rw [← h.1]; exact hk
        simp [T.set, Act.put, Array.getD, this]
        exact hr
      · have h1 : (t.set k v).get j = t.get j := by
          simp [T.set, Ne.symm hj]
        have h2 : (a.tmps.setIfInBounds k v').getD j undef = a.tmps.getD j undef := by
          simp only [Array.getD_eq_getD_getElem?]
          rw [Array.getElem?_setIfInBounds_ne (by omega)]
        rw [h1]
        show Rep E w (t.get j) ((a.tmps.setIfInBounds k v').getD j undef)
        rw [h2]; exact h.2 j
    · simp at hp

theorem put_defers (a : Act) (d : Option Tmp) (v : Value) : (a.put d v).defers = a.defers := by cases d <;> rfl

theorem wanted_ok {E : Env} {w : World} {t : T} {a : Act} {ops : Array Oper} {o : Oper} (h : TRel E w t a.tmps) {b : Bool} (hw : wantedA ops t o = some b) : Region.wanted o (yielded ops a.tmps) = b := by
  unfold wantedA at hw
  unfold Region.wanted
  cases hg : o.guard with
  | none => simp [hg] at hw; subst hw; rfl
  | some jw =>
    obtain ⟨j, want⟩ := jw
    simp only [hg] at hw ⊢
    cases hd : (ops[j]?).bind (·.dst) with
    | none => simp [hd] at hw; subst hw; simp [yielded, hd]
    | some d =>
      simp only [hd] at hw
      split at hw
      · rename_i x hx
        simp at hw; subst hw
        have := h.2 d
        rw [hx] at this
        have hv : a.tmps.getD d undef = .bool x := by
          generalize a.tmps.getD d undef = y at this
          cases this; rfl
        have hv' : a.tmps[d]? = some (.bool x) := by
          rw [Array.getD_eq_getD_getElem?] at hv
          cases hq : a.tmps[d]? with
          | none => rw [hq] at hv; simp [undef] at hv
          | some y => rw [hq] at hv; simp at hv; rw [hv]
        simp [yielded, hd, hv']
      · rename_i cs hx
        simp at hw; subst hw
        have := h.2 d
        rw [hx] at this
        have hv : ∃ vs, a.tmps.getD d undef = .tuple vs := by
          generalize a.tmps.getD d undef = y at this
          cases this; exact ⟨_, rfl⟩
        obtain ⟨vs, hv⟩ := hv
        rw [Array.getD_eq_getD_getElem?] at hv
        cases hq : a.tmps[d]? with
        | none => simp [yielded, hd, hq]
        | some y => rw [hq] at hv; simp at hv; subst hv; simp [yielded, hd, hq]
      · simp at hw

/-- The concrete side: a state that the abstract one tells. -/
def After (C : Ctx) (B : Nat) (w0 : World) (E : Env) (w : World) (d : List Deferred) (Q : T → AS → Prop) (a' : Act) (w' : World) : Prop :=
  ∃ t' σ' E', Q t' σ' ∧ WRel C B w0 E' σ' w' ∧ Ext E w E' w' ∧ TRel E' w' t' a'.tmps ∧ a'.defers = d

def exOf : Exit → Option Ex
  | .normal => some .normal
  | .exit id => some (.exit id)
  | .goto l => some (.goto l)
  | .ret => some .ret
  | _ => none

def AfterX (C : Ctx) (B : Nat) (w0 : World) (E : Env) (w : World) (d : List Deferred) (Q : Ex → T → AS → Prop) (e : Exit) (a' : Act) (w' : World) : Prop :=
  ∃ x, exOf e = some x ∧ After C B w0 E w d (Q x) a' w'

theorem After.ext {E E1 : Env} {w w1 : World} {d : List Deferred} {Q : T → AS → Prop} {a' : Act} {w' : World} (x : Ext E w E1 w1) (h : After C B w0 E1 w1 d Q a' w') : After C B w0 E w d Q a' w' := by
  obtain ⟨t', σ', E', h1, h2, h3, h4⟩ := h
  exact ⟨t', σ', E', h1, h2, x.trans h3, h4⟩

theorem opsW_ok (hC : COk C) {mq : Bool} {ops : Array Oper} {Q : T → AS → Prop} {E0 : Env} {ww : World} {d : List Deferred} : ∀ (l : List Nat) (t : T) (σ : AS) (E : Env) (w : World) (a : Act), opsW C mq ops Q l t σ → WRel C B w0 E σ w → TRel E w t a.tmps →
    Ext E0 ww E w → a.defers = d → wpOps C.P ops (fun e a' w' => e = .normal ∧ After C B w0 E0 ww d Q a' w') l a w := by
  intro l
  induction l with
  | nil => intro t σ E w a h W HT x hd; exact ⟨rfl, t, σ, E, h, W, x, HT, hd⟩
  | cons i r ih =>
    intro t σ E w a h W HT x hd
    simp only [opsW] at h
    simp only [wpOps]
    cases ho : ops[i]? with
    | none => simp only [ho] at h ⊢; exact ih t σ E w a h W HT x hd
    | some o =>
      simp only [ho] at h ⊢
      cases hw : wantedA ops t o with
      | none => simp [hw] at h
      | some b =>
        have hwant := wanted_ok HT hw
        cases b with
        | false =>
          simp only [hw] at h
          rw [hwant]
          simp only [Bool.false_eq_true, if_false]
          cases hp : t.put o.dst (.tup []) with
          | none => simp [hp] at h
          | some t' =>
            simp only [hp] at h
            exact ih t' σ E w (a.put o.dst undef) h W (HT.put hp (.tup [] [] rfl (by intro i a v h; simp at h))) x (by rw [put_defers]; exact hd)
        | true =>
          simp only [hw] at h
          rw [hwant]
          simp only [if_true]
          left
          cases hop : aOp C mq t σ o.op with
          | none => simp [hop] at h
          | some res =>
            have key := aOp_ok hC W HT o hop
            cases res with
            | val v σ' =>
              simp only [hop] at h
              cases hp : t.put o.dst v with
              | none => simp [hp] at h
              | some t' =>
                simp only [hp] at h
                obtain ⟨n, w', E', v', hrun, hn, W', x', hrep⟩ := key
                have HT' : TRel E' w' t' (a.put o.dst v').tmps := (HT.mono x').put hp hrep
                have hnext := ih t' σ' E' w' (a.put o.dst v') h W' HT' (x.trans x') (by rw [put_defers]; exact hd)
                unfold Oper.wp
                rw [hrun]
                rcases hn with rfl | ⟨rfl, rfl⟩
                · exact hnext
                · exact hnext
            | enter f args =>
              simp only [hop] at h
              obtain ⟨vs, hrun, hr, _⟩ := key
              unfold Oper.wp
              rw [hrun]
              refine (h B w0 E w vs W hr).mono fun e w' hq => ?_
              obtain ⟨v, σ', E', v', rfl, hq, W', x', hrep⟩ := hq
              cases hp : t.put o.dst v with
              | none => simp [hp] at hq
              | some t' =>
                simp only [hp] at hq
                have HT' : TRel E' w' t' (a.put o.dst v').tmps := (HT.mono x').put hp hrep
                exact ih t' σ' E' w' (a.put o.dst v') hq W' HT' (x.trans x') (by rw [put_defers]; exact hd)

/-- The calculus holds of the machine. -/
theorem wpA_ok (hC : COk C) {f : FuncId} {d : List Deferred} : ∀ (c : Code) (Q : Ex → T → AS → Prop) (t : T) (σ : AS) (E0 E : Env) (ww w : World) (a : Act), wpA C f c Q t σ → WRel C B w0 E σ w → TRel E w t a.tmps → Ext E0 ww E w → a.defers = d →
    c.wp C.P (AfterX C B w0 E0 ww d Q) a w := by
  intro c
  induction c with
  | skip => intro Q t σ E0 E ww w a h W HT x hd; exact wp_skip ⟨.normal, rfl, t, σ, E, h, W, x, HT, hd⟩
  | label l => intro Q t σ E0 E ww w a h W HT x hd; exact wp_label ⟨.normal, rfl, t, σ, E, h, W, x, HT, hd⟩
  | exit id => intro Q t σ E0 E ww w a h W HT x hd; exact wp_exit ⟨.exit id, rfl, t, σ, E, h, W, x, HT, hd⟩
  | goto l => intro Q t σ E0 E ww w a h W HT x hd; exact wp_goto ⟨.goto l, rfl, t, σ, E, h, W, x, HT, hd⟩
  | ret => intro Q t σ E0 E ww w a h W HT x hd; exact wp_ret ⟨.ret, rfl, t, σ, E, h, W, x, HT, hd⟩
  | seq p q ihp ihq =>
    intro Q t σ E0 E ww w a h W HT x hd
    refine wp_seq (wp_mono (ihp _ t σ E0 E ww w a h W HT x hd) fun e a1 w1 hq => ?_)
    obtain ⟨y, hy, t1, σ1, E1, hq, W1, x1, HT1, hd1⟩ := hq
    cases e <;> simp only [exOf, Option.some.injEq, reduceCtorEq] at hy <;> subst hy
    · exact ihq Q t1 σ1 E0 E1 ww w1 a1 hq W1 HT1 x1 hd1
    · exact ⟨_, rfl, t1, σ1, E1, hq, W1, x1, HT1, hd1⟩
    · exact ⟨_, rfl, t1, σ1, E1, hq, W1, x1, HT1, hd1⟩
    · exact ⟨_, rfl, t1, σ1, E1, hq, W1, x1, HT1, hd1⟩
  | cond c p q ihp ihq =>
    intro Q t σ E0 E ww w a h W HT x hd
    simp only [wpA] at h
    split at h
    · rename_i hc
      have hr := ev_rep W HT hc
      have hv : a.eval c = .bool true := by generalize a.eval c = y at hr; cases hr; rfl
      exact wp_cond_true hv (ihp Q t σ E0 E ww w a h W HT x hd)
    · rename_i hc
      have hr := ev_rep W HT hc
      have hv : a.eval c = .bool false := by generalize a.eval c = y at hr; cases hr; rfl
      exact wp_cond_false hv (ihq Q t σ E0 E ww w a h W HT x hd)
    · exact h.elim
  | block id b ih =>
    intro Q t σ E0 E ww w a h W HT x hd
    refine wp_block (wp_mono (ih _ t σ E0 E ww w a h W HT x hd) fun e a1 w1 hq => ?_)
    obtain ⟨y, hy, t1, σ1, E1, hq, W1, x1, HT1, hd1⟩ := hq
    cases e <;> simp only [exOf, Option.some.injEq, reduceCtorEq] at hy <;> subst hy
    · exact ⟨_, rfl, t1, σ1, E1, hq, W1, x1, HT1, hd1⟩
    · rename_i id'
      simp only [Exit.inBlock]
      by_cases he : id' = id
      · rw [if_pos he]
        simp only [if_pos he] at hq
        exact ⟨_, rfl, t1, σ1, E1, hq, W1, x1, HT1, hd1⟩
      · rw [if_neg he]
        simp only [if_neg he] at hq
        exact ⟨_, rfl, t1, σ1, E1, hq, W1, x1, HT1, hd1⟩
    · exact ⟨_, rfl, t1, σ1, E1, hq, W1, x1, HT1, hd1⟩
    · exact ⟨_, rfl, t1, σ1, E1, hq, W1, x1, HT1, hd1⟩
  | loop b ih =>
    intro Q t σ E0 E ww w a h W HT x hd
    obtain ⟨n, h⟩ := h
    refine wp_loop_rounds n ?_
    induction n generalizing t σ E w a with
    | zero => exact h.elim
    | succ n ihn =>
      rw [rounds_succ]
      refine wp_mono (ih _ t σ E0 E ww w a h W HT x hd) fun e a1 w1 hq => ?_
      obtain ⟨y, hy, t1, σ1, E1, hq, W1, x1, HT1, hd1⟩ := hq
      cases e <;> simp only [exOf, Option.some.injEq, reduceCtorEq] at hy <;> subst hy
      · exact ihn t1 σ1 E1 w1 a1 W1 HT1 x1 hd1 hq
      · exact ⟨_, rfl, t1, σ1, E1, hq, W1, x1, HT1, hd1⟩
      · exact ⟨_, rfl, t1, σ1, E1, hq, W1, x1, HT1, hd1⟩
      · exact ⟨_, rfl, t1, σ1, E1, hq, W1, x1, HT1, hd1⟩
  | region id ops draw =>
    intro Q t σ E0 E ww w a h W HT x hd
    simp only [wpA] at h
    have fin : ∀ e a' w', (e = .normal ∧ After C B w0 E0 ww d (Drop (Q .normal)) a' w') → AfterX C B w0 E0 ww d Q e a' w' := by
      rintro e a' w' ⟨rfl, t', σ', E', ⟨t0, σ0, hle, hs, hq⟩, h2, h3, h4, h5⟩; exact ⟨.normal, rfl, t0, σ0, E', hq, hs.wrel h2, h3, hle.trel h4, h5⟩
    cases draw with
    | false =>
      simp only [Bool.false_eq_true, if_false] at h
      exact wp_mono (wp_region (opsW_ok hC _ t σ E w a h W HT x hd)) fin
    | true =>
      simp only [if_true] at h
      refine wp_mono (wp_region_draw fun tt => ?_) fin
      exact opsW_ok hC _ t σ E w.drew a (h _ ⟨tt, by simp [Region.schedule, hC.mixed]⟩) W.drew (HT.mono (ext_drew E w)) (x.trans (ext_drew E w)) hd
  | scope b ih =>
    intro Q t σ E0 E ww w a h W HT x hd
    refine wp_scope_straight (wp_mono (ih _ t σ E0 E ww w a h W HT x hd) fun e a1 w1 hq => ?_)
    obtain ⟨y, hy, t1, σ1, E1, hq, W1, x1, HT1, hd1⟩ := hq
    cases e <;> simp only [exOf, Option.some.injEq, reduceCtorEq] at hy <;> subst hy
    · exact ⟨_, rfl, t1, σ1, E1, hq, W1, x1, HT1, hd1⟩
    · exact ⟨_, rfl, t1, σ1, E1, hq, W1, x1, HT1, hd1⟩
    · exact hq.elim
    · exact ⟨_, rfl, t1, σ1, E1, hq, W1, x1, HT1, hd1⟩
  | rangeFunc g ps p q ihp ihq => intro Q t σ E0 E ww w a h; exact h.elim
  | refuse s => intro Q t σ E0 E ww w a h; exact h.elim
end
end Go.W
