/- Pieces of a body: some walked, some carried out. Conditions: none. -/
import Derived.Test.YtjnomlphjnnbnaaGreatDoorW19
import Derived.Test.YtjnomlphjnnbnaaGreatDoorX5
import Derived.Test.YtjnomlphjnnbnaaGreatDoorX7
set_option linter.unusedVariables false
set_option linter.unusedSimpArgs false
namespace Go.W

/-- What a piece of code does, of the machine. -/
def Does (C : Ctx) (c : Code) (Q : Ex → T → AS → Prop) (t : T) (σ : AS) : Prop :=
  ∀ (B : Nat) (w0 : World) (d : List Deferred) (E0 E : Env) (ww w : World) (a : Act), WRel C B w0 E σ w → TRel E w t a.tmps → Ext E0 ww E w → a.defers = d → c.wp C.P (AfterX C B w0 E0 ww d Q) a w

section
variable {C : Ctx} {f : FuncId} {Q : Ex → T → AS → Prop} {t : T} {σ : AS}

theorem Does.walk (hC : COk C) {c : Code} (h : wpA C f c Q t σ) : Does C c Q t σ := fun B w0 d E0 E ww w a W HT x hd => wpA_ok hC c _ _ _ E0 E ww w a h W HT x hd

theorem Does.seq {p q : Code} (R : T → AS → Prop) (h : Does C p (Then R Q) t σ) (k : ∀ t σ, R t σ → Does C q Q t σ) : Does C (.seq p q) Q t σ := fun B w0 d E0 E ww w a W HT x hd => by
  refine wp_seq (wp_mono (h B w0 d E0 E ww w a W HT x hd) fun e a1 w1 hq => ?_)
  obtain ⟨y, hy, t1, σ1, E1, hq, W1, x1, HT1, hd1⟩ := hq
  cases e <;> simp only [exOf, Option.some.injEq, reduceCtorEq] at hy <;> subst hy
  · exact k t1 σ1 hq B w0 d E0 E1 ww w1 a1 W1 HT1 x1 hd1
  · exact ⟨_, rfl, t1, σ1, E1, hq, W1, x1, HT1, hd1⟩
  · exact ⟨_, rfl, t1, σ1, E1, hq, W1, x1, HT1, hd1⟩
  · exact ⟨_, rfl, t1, σ1, E1, hq, W1, x1, HT1, hd1⟩

theorem Does.run (hC : COk C) (hM : MemoOk C) {c : Code} {m n : Nat} {tr : Slots} {s : St} {e : Ex} {t' : TT} {s' : St} (h : exec C m f none c ⟨n, tr⟩ s = some (e, t', s')) (hQ : Q e t'.T s'.as) : Does C c Q (TT.mk n tr).T s.as := fun B w0 d E0 E ww w a W HT x hd => by
  refine wp_mono (cwp_wp (exec_ok hC hM m f none c _ s e t' s' h B w0 d E0 E ww w a W HT x hd)) fun y a1 w1 hq => ?_
  obtain ⟨hy, E', g1, g2, g3, g4⟩ := hq.is
  exact ⟨e, hy, _, _, E', hQ, g1, g2, g3, g4⟩

theorem SCall_of_does (hC : COk C) {fn : Func} {c : Code} {args : List AV} {Q : AV → AS → Prop} (hF : C.F f = some fn) (hb : fn.body = some c) (h : Does C c (RetQ C fn Q) (T.enter fn args) σ) : SCall C f args σ Q :=
  SCall_of_wp hC hF hb fun B w0 E w a W HT hd => h B w0 [] E E w w a W HT (Ext.refl E w) hd
end

/-- Does a call come to a value? -/
noncomputable def comesTo (r : R) (v : AV) : Bool := match r with | some (x, _) => sameV x v | none => false
/-- .. and with so many objects in the store? -/
noncomputable def comesTo' (r : R) (v : AV) (n : Nat) : Bool := match r with | some (x, s) => sameV x v && Nat.beq s.n n | none => false

theorem SCall_comes {C : Ctx} (hC : COk C) (hM : MemoOk C) {m : Nat} {g : FuncId} {args : List AV} {s : St} {v : AV} (h : comesTo (kRun C m g args s) v = true) : SCall C g args s.as fun a _ => a = v := by
  unfold comesTo at h
  split at h
  · rename_i x s' hr
    exact (kRun_ok hC hM hr).mono fun a b hab => hab.1.trans (sameV_eq _ _ h)
  · simp at h
theorem SCall_comes' {C : Ctx} (hC : COk C) (hM : MemoOk C) {m n : Nat} {g : FuncId} {args : List AV} {s : St} {v : AV} (h : comesTo' (kRun C m g args s) v n = true) : SCall C g args s.as fun a b => a = v ∧ b.length = n := by
  unfold comesTo' at h
  split at h
  · rename_i x s' hr
    simp only [Bool.and_eq_true] at h
    refine (kRun_ok hC hM hr).mono fun a b hab => ⟨hab.1.trans (sameV_eq _ _ h.1), ?_⟩
    rw [hab.2, St.len]; exact Nat.eq_of_beq_eq_true h.2
  · simp at h

/-- The rest of a body, carried out. -/
noncomputable def restTo (C : Ctx) (m : Nat) (f : FuncId) (fn : Func) (n : Nat) (c : Code) (tr : Slots) (s : St) (v : AV) : Bool := comesTo (kExec C m f n none c tr s (kEnd fn C n fun v s => some (v, s))) v

theorem rest_does {C : Ctx} (hC : COk C) (hM : MemoOk C) {m : Nat} {f : FuncId} {fn : Func} {n : Nat} {c : Code} {tr : Slots} {s : St} {v : AV} {Q : AV → AS → Prop} (hQ : ∀ σ, Q v σ) (h : restTo C m f fn n c tr s v = true) : Does C c (RetQ C fn Q) (TT.mk n tr).T s.as := by
  unfold restTo comesTo at h
  rw [kExec_eq, kEnd_eq fn C n _ _ (fun e t' s' h => exec_n C m _ _ _ _ _ _ _ _ h)] at h
  cases he : exec C m f none c ⟨n, tr⟩ s with
  | none => rw [he] at h; simp at h
  | some p =>
    obtain ⟨e, t', s'⟩ := p
    rw [he] at h
    refine Does.run hC hM he ?_
    cases e with
    | normal =>
      simp only at h
      cases hr : fRetA C s' t' fn.results.toList with
      | none => rw [hr] at h; simp at h
      | some u => rw [hr] at h; simp only at h; simp only [RetQ, fRetA_ok hr]; rw [sameV_eq _ _ h]; exact hQ _
    | ret =>
      simp only at h
      cases hr : fRetA C s' t' fn.results.toList with
      | none => rw [hr] at h; simp at h
      | some u => rw [hr] at h; simp only at h; simp only [RetQ, fRetA_ok hr]; rw [sameV_eq _ _ h]; exact hQ _
    | exit i => simp at h
    | goto l => simp at h

/-- Slots as a tree. -/
noncomputable def slotsOf : List (Nat × AV) → Slots
  | [] => .e
  | (k, v) :: r => (slotsOf r).set .undef k v
theorem slotsOf_get : ∀ (l : List (Nat × AV)) (j : Nat), (slotsOf l).get .undef j = tget l j
  | [], j => rfl
  | (k, v) :: r, j => by
    simp only [slotsOf, Tr.get_set, tget, slotsOf_get r j]
    by_cases h : j = k
    · subst h; simp
    · rw [if_neg h, if_neg (Ne.symm h)]
theorem slotsOf_T (n : Nat) (l : List (Nat × AV)) : (TT.mk n (slotsOf l)).T = T.of n l := T.ext' rfl fun j => slotsOf_get l j
theorem dead_as (n : Nat) : (St.mk n .e).as = List.replicate n .dead := by
  apply List.ext_getElem?
  intro j
  simp only [St.as, List.getElem?_map, List.getElem?_replicate]
  by_cases h : j < n
  · simp [h]; rfl
  · simp [h]
/-- Contexts over one program and the same variables tell the same of calls. -/
theorem SCall.congr {C C' : Ctx} (hP : C.P = C'.P) (hG : C.G = C'.G) {f : FuncId} {args : List AV} {σ : AS} {Q : AV → AS → Prop} (h : SCall C f args σ Q) : SCall C' f args σ Q := by
  intro B w0 E w vs W hr
  have W1 : WRel C B w0 E σ w := ⟨W.below, W.size, W.imm, W.obj, W.inj, W.fresh, by rw [hG]; exact W.glob⟩
  have := h B w0 E w vs W1 hr
  rw [hP] at this
  refine this.mono fun e w' hq => ?_
  obtain ⟨v, σ', E', v', h1, h2, W', h3⟩ := hq
  exact ⟨v, σ', E', v', h1, h2, ⟨W'.below, W'.size, W'.imm, W'.obj, W'.inj, W'.fresh, by rw [← hG]; exact W'.glob⟩, h3⟩
end Go.W
