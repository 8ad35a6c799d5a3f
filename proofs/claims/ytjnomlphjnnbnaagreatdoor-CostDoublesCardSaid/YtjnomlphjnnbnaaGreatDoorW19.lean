/- Walking: slots as a list, rules for each piece of code. Conditions: none. -/
import Derived.Test.YtjnomlphjnnbnaaGreatDoorX4
import Derived.IntWalk
set_option linter.unusedVariables false
set_option linter.unusedSimpArgs false
namespace Go.W

def tget : List (Nat × AV) → Nat → AV
  | [], _ => .undef
  | (k, v) :: r, j => if k = j then v else tget r j
def tset : List (Nat × AV) → Nat → AV → List (Nat × AV)
  | [], k, v => [(k, v)]
  | (j, u) :: r, k, v => if j = k then (j, v) :: r else (j, u) :: tset r k v
def T.of (n : Nat) (l : List (Nat × AV)) : T := ⟨n, tget l⟩
def pick (keep : List Nat) (l : List (Nat × AV)) : List (Nat × AV) := keep.map fun k => (k, tget l k)

theorem tget_tset (l : List (Nat × AV)) (k : Nat) (v : AV) (j : Nat) : tget (tset l k v) j = if k = j then v else tget l j := by
  induction l with
  | nil => rfl
  | cons p r ih =>
    obtain ⟨a, u⟩ := p
    simp only [tset]
    by_cases h : a = k
    · subst h
      rw [if_pos rfl]
      simp only [tget]
      by_cases h2 : a = j
      · rw [if_pos h2, if_pos h2]
      · rw [if_neg h2, if_neg h2, if_neg h2]
    · rw [if_neg h]
      simp only [tget, ih]
      by_cases h2 : a = j
      · rw [if_pos h2, if_pos h2, if_neg (by rintro rfl; exact h h2)]
      · rw [if_neg h2, if_neg h2]

theorem of_get (n : Nat) (l : List (Nat × AV)) (k : Nat) : (T.of n l).get k = tget l k := rfl
theorem of_n (n : Nat) (l : List (Nat × AV)) : (T.of n l).n = n := rfl
theorem of_put {n : Nat} {l : List (Nat × AV)} {k : Nat} {v : AV} (h : k < n) : (T.of n l).put (some k) v = some (T.of n (tset l k v)) := by
  have h' : k < (T.of n l).n := h
  simp only [T.put, if_pos h']
  congr 1
  refine T.ext' rfl fun j => ?_
  show (if k = j then v else tget l j) = tget (tset l k v) j
  rw [tget_tset]
theorem of_put0 {n : Nat} {l : List (Nat × AV)} {v : AV} : (T.of n l).put none v = some (T.of n l) := rfl

theorem tget_pick : ∀ (keep : List Nat) (l : List (Nat × AV)) (j : Nat), tget (pick keep l) j = .undef ∨ tget (pick keep l) j = tget l j
  | [], l, j => .inl rfl
  | k :: r, l, j => by
    simp only [pick, List.map_cons, tget]
    by_cases h : k = j
    · rw [if_pos h]; subst h; exact .inr rfl
    · rw [if_neg h]; exact tget_pick r l j
theorem pick_le (n : Nat) (keep : List Nat) (l : List (Nat × AV)) : TLe (T.of n (pick keep l)) (T.of n l) := ⟨rfl, fun k => tget_pick keep l k⟩

theorem enter_of (fn : Func) (args : List AV) (n : Nat) (h : args.length + (fn.ntmps - args.length) = n) : T.enter fn args = T.of n (args.zipIdx.map fun p => (p.2, p.1)) := by
  refine T.ext' h fun j => ?_
  show (args[j]?).getD .undef = tget _ j
  have key : ∀ (l : List AV) (k j : Nat), tget ((l.zipIdx k).map fun p => (p.2, p.1)) j = if k ≤ j then (l[j - k]?).getD .undef else .undef := by
    intro l
    induction l with
    | nil => intro k j; simp [tget]
    | cons a r ih =>
      intro k j
      simp only [List.zipIdx_cons, List.map_cons, tget, ih]
      by_cases h1 : k = j
      · subst h1; simp
      · rw [if_neg h1]
        by_cases h2 : k + 1 ≤ j
        · rw [if_pos h2, if_pos (by omega)]
          have : j - k = (j - (k + 1)) + 1 := by omega
          rw [this]; simp
        · rw [if_neg h2, if_neg (by omega)]
  rw [key]; simp

/-! What is asked behind a piece. -/
def Then (R : T → AS → Prop) (Q : Ex → T → AS → Prop) : Ex → T → AS → Prop := fun e t σ => match e with
  | .normal => R t σ
  | e => Q e t σ
def Blk (id : Nat) (Q : Ex → T → AS → Prop) : Ex → T → AS → Prop := fun e t σ => match e with
  | .exit id' => if id' = id then Q .normal t σ else Q (.exit id') t σ
  | e => Q e t σ
theorem Then_n (R : T → AS → Prop) (Q : Ex → T → AS → Prop) (t : T) (σ : AS) : Then R Q .normal t σ = R t σ := rfl
theorem Then_x (R : T → AS → Prop) (Q : Ex → T → AS → Prop) (id : Nat) (t : T) (σ : AS) : Then R Q (.exit id) t σ = Q (.exit id) t σ := rfl
theorem Then_r (R : T → AS → Prop) (Q : Ex → T → AS → Prop) (t : T) (σ : AS) : Then R Q .ret t σ = Q .ret t σ := rfl
theorem Blk_n (id : Nat) (Q : Ex → T → AS → Prop) (t : T) (σ : AS) : Blk id Q .normal t σ = Q .normal t σ := rfl
theorem Blk_x (id : Nat) (Q : Ex → T → AS → Prop) (i : Nat) (t : T) (σ : AS) : Blk id Q (.exit i) t σ = if i = id then Q .normal t σ else Q (.exit i) t σ := rfl
theorem Blk_r (id : Nat) (Q : Ex → T → AS → Prop) (t : T) (σ : AS) : Blk id Q .ret t σ = Q .ret t σ := rfl

section
variable {C : Ctx} {f : FuncId} {Q : Ex → T → AS → Prop} {t : T} {σ : AS}

theorem w_skip (h : Q .normal t σ) : wpA C f .skip Q t σ := h
theorem w_exit {id : Nat} (h : Q (.exit id) t σ) : wpA C f (.exit id) Q t σ := h
theorem w_ret (h : Q .ret t σ) : wpA C f .ret Q t σ := h
theorem w_seq {a b : Code} (h : wpA C f a (Then (wpA C f b Q) Q) t σ) : wpA C f (.seq a b) Q t σ := h
theorem w_block {id : Nat} {b : Code} (h : wpA C f b (Blk id Q) t σ) : wpA C f (.block id b) Q t σ := h
theorem w_cond {c : Operand} {x y : Code} {v : Bool} (hv : ev C t c = some (.bool v)) (h1 : v = true → wpA C f x Q t σ) (h2 : v = false → wpA C f y Q t σ) : wpA C f (.cond c x y) Q t σ := by
  simp only [wpA, hv]
  cases v
  · exact h2 rfl
  · exact h1 rfl

/-- A region: what is kept of the slots behind it. -/
theorem w_reg {id n : Nat} {ops : Array Oper} {l0 : List (Nat × AV)} (keep : List Nat)
    (h : ∀ K : T → AS → Prop, (∀ l σ, Q .normal (T.of n (pick keep l)) σ → K (T.of n l) σ) → opsL C (C.rows f id) ops K ops.toList (T.of n l0) σ) : wpA C f (.region id ops false) Q (T.of n l0) σ :=
  wp_reg (h _ fun l σ hq => ⟨_, _, pick_le n keep l, SLe.refl _, hq⟩)
/-- As w_reg; of the objects nothing is told behind it. -/
theorem w_reg_kill {id n : Nat} {ops : Array Oper} {l0 : List (Nat × AV)} (keep : List Nat)
    (h : ∀ K : T → AS → Prop, (∀ l σ, Q .normal (T.of n (pick keep l)) (List.replicate σ.length .dead) → K (T.of n l) σ) → opsL C (C.rows f id) ops K ops.toList (T.of n l0) σ) : wpA C f (.region id ops false) Q (T.of n l0) σ :=
  wp_reg (h _ fun l σ hq => ⟨_, _, pick_le n keep l, ⟨by simp, fun id => by
    by_cases hid : id < σ.length
    · left; simp [hid]
    · right; simp [hid]⟩, hq⟩)
theorem w_draw {id n : Nat} {ops : Array Oper} {l0 : List (Nat × AV)} (keep : List Nat) (plan : List (Nat × Option (List Nat))) (hok : planOk ops [] none plan = true)
    (h : ∀ K : T → AS → Prop, (∀ l σ, Q .normal (T.of n (pick keep l)) σ → K (T.of n l) σ) → canonW C (C.rows f id) ops K plan (T.of n l0) σ) : wpA C f (.region id ops true) Q (T.of n l0) σ :=
  wp_draw plan hok (h _ fun l σ hq => ⟨_, _, pick_le n keep l, SLe.refl _, hq⟩)

theorem opsW_mono {mq : Bool} {ops : Array Oper} {R R' : T → AS → Prop} (hr : ∀ t σ, R t σ → R' t σ) : ∀ (l : List Nat) (t : T) (σ : AS), opsW C mq ops R l t σ → opsW C mq ops R' l t σ
  | [], t, σ, h => hr t σ h
  | i :: r, t, σ, h => by
    have ih : ∀ t σ, opsW C mq ops R r t σ → opsW C mq ops R' r t σ := fun t σ => opsW_mono hr r t σ
    simp only [opsW] at h ⊢
    split
    · rename_i ho; simp only [ho] at h; exact ih _ _ h
    · rename_i o ho
      simp only [ho] at h
      split
      · rename_i hw; simp only [hw] at h
      · rename_i hw
        simp only [hw] at h
        split
        · rename_i hp; simp only [hp] at h; exact ih _ _ h
        · rename_i hp; simp only [hp] at h
      · rename_i hw
        simp only [hw] at h
        split
        · rename_i ha; simp only [ha] at h
        · rename_i ha
          simp only [ha] at h
          split
          · rename_i hp; simp only [hp] at h; exact ih _ _ h
          · rename_i hp; simp only [hp] at h
        · rename_i ha
          simp only [ha] at h
          refine h.mono fun v σ' hq => ?_
          split
          · rename_i hp; simp only [hp] at hq; exact ih _ _ hq
          · rename_i hp; simp only [hp] at hq

theorem wpA_mono : ∀ (c : Code) {Q Q' : Ex → T → AS → Prop} {t : T} {σ : AS}, (∀ e t σ, Q e t σ → Q' e t σ) → wpA C f c Q t σ → wpA C f c Q' t σ
  | .skip, Q, Q', t, σ, hq, h => hq _ _ _ h
  | .label _, Q, Q', t, σ, hq, h => hq _ _ _ h
  | .exit _, Q, Q', t, σ, hq, h => hq _ _ _ h
  | .goto _, Q, Q', t, σ, hq, h => hq _ _ _ h
  | .ret, Q, Q', t, σ, hq, h => hq _ _ _ h
  | .seq a b, Q, Q', t, σ, hq, h => wpA_mono a (fun e t σ h => by cases e <;> first | exact hq _ _ _ h | exact wpA_mono b hq h) h
  | .cond c a b, Q, Q', t, σ, hq, h => by
    simp only [wpA] at h ⊢
    split
    · rename_i hc; simp only [hc] at h; exact wpA_mono a hq h
    · rename_i hc; simp only [hc] at h; exact wpA_mono b hq h
    · rename_i h1 h2
      split at h
      · rename_i hc; exact absurd hc h1
      · rename_i hc; exact absurd hc h2
      · exact h
  | .block id b, Q, Q', t, σ, hq, h => wpA_mono b (fun e t σ h => by
      cases e with
      | exit i =>
        simp only at h ⊢
        split
        · rename_i hi; rw [if_pos hi] at h; exact hq _ _ _ h
        · rename_i hi; rw [if_neg hi] at h; exact hq _ _ _ h
      | _ => exact hq _ _ _ h) h
  | .loop b, Q, Q', t, σ, hq, h => by
    obtain ⟨n, h⟩ := h
    refine ⟨n, ?_⟩
    induction n generalizing t σ with
    | zero => exact h
    | succ n ih => exact wpA_mono b (fun e t σ h => by cases e <;> first | exact hq _ _ _ h | exact ih _ _ h) h
  | .region id ops draw, Q, Q', t, σ, hq, h => by
    simp only [wpA] at h ⊢
    have hd : ∀ t σ, Drop (Q .normal) t σ → Drop (Q' .normal) t σ := fun t σ ⟨t0, σ0, h1, h3, h2⟩ => ⟨t0, σ0, h1, h3, hq _ _ _ h2⟩
    split
    · rename_i hdr; rw [if_pos hdr] at h; exact fun l hl => opsW_mono hd l t σ (h l hl)
    · rename_i hdr; rw [if_neg hdr] at h; exact opsW_mono hd _ t σ h
  | .scope b, Q, Q', t, σ, hq, h => wpA_mono b (fun e t σ h => by cases e <;> first | exact hq _ _ _ h | exact h) h
  | .rangeFunc _ _ _ _, Q, Q', t, σ, hq, h => h.elim
  | .refuse _, Q, Q', t, σ, hq, h => h.elim

theorem w_mid {a b : Code} (R : T → AS → Prop) (h : wpA C f a (Then R Q) t σ) (k : ∀ t σ, R t σ → wpA C f b Q t σ) : wpA C f (.seq a b) Q t σ :=
  wpA_mono a (fun e t σ h => by cases e <;> first | exact k _ _ h | exact h) h
theorem rounds_mono {b : Code} : ∀ (n m : Nat) (t : T) (σ : AS), n ≤ m → wpA.roundsA (fun Q t σ => wpA C f b Q t σ) Q n t σ → wpA.roundsA (fun Q t σ => wpA C f b Q t σ) Q m t σ
  | 0, m, t, σ, hle, h => h.elim
  | n + 1, 0, t, σ, hle, h => by omega
  | n + 1, m + 1, t, σ, hle, h => wpA_mono b (fun e t σ h => by cases e <;> first | exact h | exact rounds_mono n m t σ (by omega) h) h

/-- A loop: what holds ahead of each round, with a number that falls. -/
theorem w_loop {b : Code} (I : Nat → T → AS → Prop) {n0 : Nat} (h0 : I n0 t σ)
    (step : ∀ n t σ, I n t σ → wpA C f b (Then (fun t' σ' => ∃ m, m < n ∧ I m t' σ') Q) t σ) : wpA C f (.loop b) Q t σ := by
  have key : ∀ n t σ, I n t σ → wpA.roundsA (fun Q t σ => wpA C f b Q t σ) Q (n + 1) t σ := by
    intro n
    induction n using Nat.strongRecOn with
    | _ n ih =>
      intro t σ hI
      refine wpA_mono b (fun e t' σ' h => ?_) (step n t σ hI)
      cases e with
      | normal =>
        obtain ⟨m, hm, hI'⟩ := h
        exact rounds_mono (m + 1) n t' σ' (by omega) (ih m hm t' σ' hI')
      | exit id => exact h
      | goto l => exact h
      | ret => exact h
  exact ⟨n0 + 1, key n0 t σ h0⟩

end

theorem SCall.body {C : Ctx} (hC : COk C) {f : FuncId} {fn : Func} {c : Code} {args : List AV} {σ : AS} {Q : AV → AS → Prop} (hF : C.F f = some fn) (hb : fn.body = some c) (n : Nat) (hn : args.length + (fn.ntmps - args.length) = n)
    (h : ∀ QQ : Ex → T → AS → Prop, (∀ t σ v, retA C σ t fn.results.toList = some v → Q v σ → QQ .ret t σ ∧ QQ .normal t σ) → wpA C f c QQ (T.of n (args.zipIdx.map fun p => (p.2, p.1))) σ) : SCall C f args σ Q := by
  refine SCall_of_body hC hF hb ?_
  rw [enter_of fn args n hn]
  refine h _ fun t σ v hv hq => ?_
  simp only [RetQ, hv]
  exact ⟨hq, hq⟩

/-! One operation at a time. -/
section
variable {C : Ctx} {mq : Bool} {ops : Array Oper} {Q : T → AS → Prop} {o : Oper} {t t' : T} {σ σ' : AS} {v : AV}

theorem o_val {r : List Oper} (hw : wantedA ops t o = some true) (ha : aOp C mq t σ o.op = some (.val v σ')) (hp : t.put o.dst v = some t') (h : opsL C mq ops Q r t' σ') : opsL C mq ops Q (o :: r) t σ := by
  simp only [opsL, hw, ha, hp]; exact h
theorem o_skip {r : List Oper} (hw : wantedA ops t o = some false) (hp : t.put o.dst (.tup []) = some t') (h : opsL C mq ops Q r t' σ) : opsL C mq ops Q (o :: r) t σ := by
  simp only [opsL, hw, hp]; exact h
theorem o_call {r : List Oper} {f : FuncId} {args : List AV} {R : AV → AS → Prop} (hw : wantedA ops t o = some true) (ha : aOp C mq t σ o.op = some (.enter f args)) (hc : SCall C f args σ R)
    (h : ∀ v σ', R v σ' → ∃ t', t.put o.dst v = some t' ∧ opsL C mq ops Q r t' σ') : opsL C mq ops Q (o :: r) t σ := by
  simp only [opsL, hw, ha]
  refine hc.mono fun v σ' hr => ?_
  obtain ⟨t', hp, h⟩ := h v σ' hr
  simp only [hp]; exact h
theorem o_end (h : Q t σ) : opsL C mq ops Q [] t σ := h

theorem c_val {i : Nat} {r : List (Nat × Option (List Nat))} (ho : ops[i]? = some o) (hw : wantedA ops t o = some true) (ha : aOp C mq t σ o.op = some (.val v σ)) (hp : t.put o.dst v = some t') (h : canonW C mq ops Q r t' σ) : canonW C mq ops Q ((i, none) :: r) t σ := by
  simp only [canonW, ho, hw, ha, hp]; exact ⟨trivial, h⟩
theorem c_skip {i : Nat} {r : List (Nat × Option (List Nat))} (ho : ops[i]? = some o) (hw : wantedA ops t o = some false) (hp : t.put o.dst (.tup []) = some t') (h : canonW C mq ops Q r t' σ) : canonW C mq ops Q ((i, none) :: r) t σ := by
  simp only [canonW, ho, hw, hp]; exact h
theorem c_act {i : Nat} {pl : List Nat} {r : List (Nat × Option (List Nat))} (ho : ops[i]? = some o) (hw : wantedA ops t o = some true) (ha : aOp C mq t σ o.op = some (.val v σ')) (hp : t.put o.dst v = some t')
    (hg : ∀ j ∈ pl, match ops[j]? with | some oj => again C mq ops oj t' σ' | none => False) (h : canonW C mq ops Q r t' σ') : canonW C mq ops Q ((i, some pl) :: r) t σ := by
  simp only [canonW, ho, doA, hw, ha, hp]; exact ⟨hg, h⟩
theorem c_call {i : Nat} {pl : List Nat} {r : List (Nat × Option (List Nat))} {f : FuncId} {args : List AV} {R : AV → AS → Prop} (ho : ops[i]? = some o) (hw : wantedA ops t o = some true) (ha : aOp C mq t σ o.op = some (.enter f args)) (hc : SCall C f args σ R)
    (h : ∀ v σ', R v σ' → ∃ t', t.put o.dst v = some t' ∧ (∀ j ∈ pl, match ops[j]? with | some oj => again C mq ops oj t' σ' | none => False) ∧ canonW C mq ops Q r t' σ') : canonW C mq ops Q ((i, some pl) :: r) t σ := by
  simp only [canonW, ho, doA, hw, ha]
  refine hc.mono fun v σ' hr => ?_
  obtain ⟨t', hp, hg, h⟩ := h v σ' hr
  simp only [hp]; exact ⟨hg, h⟩
theorem tset_tget (n : Nat) (l : List (Nat × AV)) (d : Nat) (v : AV) (h : tget l d = v) : T.of n (tset l d v) = T.of n l := by
  refine T.ext' rfl fun j => ?_
  show tget (tset l d v) j = tget l j
  rw [tget_tset]
  split
  · rename_i e; subst e; exact h.symm
  · rfl
/-- A bool is true or false. -/
theorem c_case {n : Nat} {l : List (Nat × AV)} {r : List (Nat × Option (List Nat))} (d : Nat) {b : Bool} (h : tget l d = .bool b) (k : ∀ b', b' = b → canonW C mq ops Q r (T.of n (tset l d (.bool b'))) σ) : canonW C mq ops Q r (T.of n l) σ := by
  have := k b rfl
  rwa [tset_tget n l d _ h] at this
theorem o_case {n : Nat} {l : List (Nat × AV)} {r : List Oper} (d : Nat) {b : Bool} (h : tget l d = .bool b) (k : ∀ b', b' = b → opsL C mq ops Q r (T.of n (tset l d (.bool b'))) σ) : opsL C mq ops Q r (T.of n l) σ := by
  have := k b rfl
  rwa [tset_tget n l d _ h] at this
theorem c_end (h : Q t σ) : canonW C mq ops Q [] t σ := h
end

/-! Reading a slice that nobody writes to. -/
theorem aIndexAddr_list {C : Ctx} {t e : TypeId} {d de : TD} {es : List (List AV)} {tl : Tail} {σ : AS} {k : IntKind} {j : Nat} {g : List AV} (hd : C.D t = some d) (hk : d.kd = .slice e) (he : C.D e = some de) (hg : es[j]? = some g) (hl : g.length = de.size) :
    aIndexAddr C t σ (.list es tl) (.int k (j : Int)) = some (.pp es j 0) := by
  have h0 : ¬ ((j : Int) < 0) := by omega
  simp only [aIndexAddr, if_neg h0, hd, Option.bind_some, hk, he, Int.toNat_natCast, hg, if_pos hl]
theorem aLoad_pp {C : Ctx} {t : TypeId} {d : TD} {es : List (List AV)} {σ : AS} {i off : Nat} {g l : List AV} {v : AV} (hd : C.D t = some d) (hg : es[i]? = some g) (hc : cut g off d.size = some l) (hm : mkVal d l = some v) : aLoad C σ t (.pp es i off) = some v := by
  simp only [aLoad, hd, Option.bind_some, target, hg, Option.map_some, hc, hm]
theorem i64_nat {n : Int} {m : Nat} (h : n = (m : Int)) (hm : m < 9223372036854775808) : IntKind.i64.wrap n = (m : Int) := by rw [IntWalk.i64_in n (by omega)]; exact h

end Go.W
