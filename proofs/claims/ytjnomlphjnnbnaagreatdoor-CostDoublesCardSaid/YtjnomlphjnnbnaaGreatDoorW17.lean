/- Regions whose order is left open: one order and a check give all orders. Conditions: none. -/
import Derived.Test.YtjnomlphjnnbnaaGreatDoorW16
import Derived.Orders
set_option linter.unusedVariables false
set_option linter.unusedSimpArgs false
namespace Go.W

/-- One operation, then K. -/
def doA (C : Ctx) (mq : Bool) (ops : Array Oper) (o : Oper) (t : T) (σ : AS) (K : T → AS → Prop) : Prop := match wantedA ops t o with
  | none => False
  | some false => (match t.put o.dst (.tup []) with | some t' => K t' σ | none => False)
  | some true => match aOp C mq t σ o.op with
    | none => False
    | some (.val v σ') => (match t.put o.dst v with | some t' => K t' σ' | none => False)
    | some (.enter f args) => SCall C f args σ fun v σ' => (match t.put o.dst v with | some t' => K t' σ' | none => False)

theorem opsW_cons {C : Ctx} {mq : Bool} {ops : Array Oper} {Q : T → AS → Prop} {i : Nat} {r : List Nat} {t : T} {σ : AS} {o : Oper} (h : ops[i]? = some o) : opsW C mq ops Q (i :: r) t σ = doA C mq ops o t σ (opsW C mq ops Q r) := by
  simp only [opsW, h]; rfl

/-- An operation that leaves the store as it is. -/
def quiet (C : Ctx) (mq : Bool) (ops : Array Oper) (o : Oper) (t : T) (σ : AS) (v : AV) : Prop :=
  (wantedA ops t o = some false ∧ v = .tup []) ∨ (wantedA ops t o = some true ∧ aOp C mq t σ o.op = some (.val v σ))

/-- It comes to the same once more. -/
def again (C : Ctx) (mq : Bool) (ops : Array Oper) (o : Oper) (t : T) (σ : AS) : Prop := match o.dst with
  | some d => d < t.n ∧ quiet C mq ops o t σ (t.get d)
  | none => ∃ v, quiet C mq ops o t σ v

/-- One order: the operations that change the store stand with a list of those that must come to the same behind them. -/
def canonW (C : Ctx) (mq : Bool) (ops : Array Oper) (Q : T → AS → Prop) : List (Nat × Option (List Nat)) → T → AS → Prop
  | [], t, σ => Q t σ
  | (i, none) :: r, t, σ => match ops[i]? with
    | none => False
    | some o => match wantedA ops t o with
      | none => False
      | some false => (match t.put o.dst (.tup []) with | some t' => canonW C mq ops Q r t' σ | none => False)
      | some true => match aOp C mq t σ o.op with
        | some (.val v σ') => (match t.put o.dst v with | some t' => σ' = σ ∧ canonW C mq ops Q r t' σ | none => False)
        | _ => False
  | (i, some pl) :: r, t, σ => match ops[i]? with
    | none => False
    | some o => doA C mq ops o t σ fun t' σ' => (∀ j ∈ pl, match ops[j]? with | some oj => again C mq ops oj t' σ' | none => False) ∧ canonW C mq ops Q r t' σ'

theorem canonW_quiet {C : Ctx} {mq : Bool} {ops : Array Oper} {Q : T → AS → Prop} {i : Nat} {r : List (Nat × Option (List Nat))} {t : T} {σ : AS} (h : canonW C mq ops Q ((i, none) :: r) t σ) :
    ∃ o v t', ops[i]? = some o ∧ quiet C mq ops o t σ v ∧ t.put o.dst v = some t' ∧ canonW C mq ops Q r t' σ := by
  simp only [canonW] at h
  split at h
  · exact h.elim
  · rename_i o ho
    split at h
    · exact h.elim
    · rename_i hw
      split at h
      · rename_i t' hp; exact ⟨o, _, t', ho, .inl ⟨hw, rfl⟩, hp, h⟩
      · exact h.elim
    · rename_i hw
      split at h
      · rename_i v σ' ha
        split at h
        · rename_i t' hp; obtain ⟨rfl, h⟩ := h; exact ⟨o, v, t', ho, .inr ⟨hw, ha⟩, hp, h⟩
        · exact h.elim
      · exact h.elim

/-! Operations look at their slots alone. -/

def Same (t u : T) (l : List Nat) : Prop := ∀ d ∈ l, t.get d = u.get d

def opSlots (o : Op) : List Nat := o.operands.toList.filterMap fun | .tmp t => some t | _ => none

theorem ev_congr {C : Ctx} {t u : T} {x : Operand} (h : ∀ d, x = .tmp d → t.get d = u.get d) : ev C t x = ev C u x := by
  cases x <;> simp only [ev]
  rw [h _ rfl]

theorem evs_congr {C : Ctx} {t u : T} : ∀ {xs : List Operand}, (∀ x ∈ xs, ev C t x = ev C u x) → evs C t xs = evs C u xs
  | [], _ => rfl
  | x :: xs, h => by simp only [evs]; rw [h x (by simp), evs_congr fun y hy => h y (by simp [hy])]

theorem evParts_congr {C : Ctx} {t u : T} : ∀ {xs : List (Nat × Operand)}, (∀ x ∈ xs, ev C t x.2 = ev C u x.2) → evParts C t xs = evParts C u xs
  | [], _ => rfl
  | (i, x) :: xs, h => by simp only [evParts]; rw [h (i, x) (by simp), evParts_congr fun y hy => h y (by simp [hy])]

theorem aOp_congr {C : Ctx} {mq : Bool} {t u : T} {σ : AS} {o : Op} (h : ∀ x ∈ o.operands.toList, ev C t x = ev C u x) : aOp C mq t σ o = aOp C mq u σ o := by
  unfold aOp
  split <;> simp only [Op.operands, Call.operands, List.mem_cons, List.not_mem_nil, or_false, forall_eq_or_imp, forall_eq, List.mem_append, List.mem_map] at h
  case h_3 c a b =>
    rw [h.1]
    congr 1; funext v; cases v <;> try rfl
    rename_i b'
    cases b' <;> simp [h.2.1, h.2.2]
  case h_6 => rw [evParts_congr fun x hx => h x.2 ⟨x, hx, rfl⟩]
  case h_7 => rw [evParts_congr fun x hx => h x.2 ⟨x, hx, rfl⟩]
  case h_14 => rw [evs_congr fun x hx => h x (by simp at hx ⊢; exact .inl hx), evs_congr fun x hx => h x (by simp at hx ⊢; exact .inr hx)]
  case h_17 ty x lo hi =>
    rw [h x (by simp)]
    have hl : ∀ a, lo = some a → ev C t a = ev C u a := fun a ha => h a (by simp [ha])
    have hh : ∀ a, hi = some a → ev C t a = ev C u a := fun a ha => h a (by simp [ha])
    cases lo <;> cases hi <;> simp only [Option.bind_some]
    · rw [hh _ rfl]
    · rw [hl _ rfl]
    · rw [hl _ rfl, hh _ rfl]
  case h_26 => rw [evs_congr fun x hx => h x (by simpa using hx)]
  case h_27 f args _ => rw [h f (by simp), evs_congr fun x hx => h x (by simp at hx ⊢; exact .inr hx)]
  all_goals first
    | rfl
    | (rw [h])
    | (rw [h.1, h.2])
    | (rw [h.1, h.2.1, h.2.2])

theorem ev_slots {C : Ctx} {t u : T} {o : Op} (h : Same t u (opSlots o)) : ∀ x ∈ o.operands.toList, ev C t x = ev C u x := by
  intro x hx
  refine ev_congr fun d hd => h d ?_
  subst hd
  exact List.mem_filterMap.2 ⟨_, hx, rfl⟩

/-- The slots at which an operation looks. -/
def slots (ops : Array Oper) (o : Oper) : List Nat := opSlots o.op ++ (match o.guard with
  | none => []
  | some (j, _) => ((ops[j]?).bind (·.dst)).toList)

theorem wanted_congr {ops : Array Oper} {o : Oper} {t u : T} (h : Same t u (slots ops o)) : wantedA ops t o = wantedA ops u o := by
  unfold wantedA
  cases hg : o.guard with
  | none => rfl
  | some jw =>
    obtain ⟨j, w⟩ := jw
    simp only
    cases hd : (ops[j]?).bind (·.dst) with
    | none => rfl
    | some d =>
      simp only
      rw [h d (by simp [slots, hg, hd])]

theorem op_congr {C : Ctx} {mq : Bool} {ops : Array Oper} {o : Oper} {t u : T} {σ : AS} (h : Same t u (slots ops o)) : aOp C mq t σ o.op = aOp C mq u σ o.op :=
  aOp_congr (ev_slots fun d hd => h d (by simp [slots, hd]))

theorem quiet_congr {C : Ctx} {mq : Bool} {ops : Array Oper} {o : Oper} {t u : T} {σ : AS} {v : AV} (h : Same t u (slots ops o)) (hq : quiet C mq ops o t σ v) : quiet C mq ops o u σ v := by
  unfold quiet at hq ⊢
  rw [← wanted_congr h, ← op_congr (C := C) (mq := mq) (σ := σ) h]
  exact hq

/-- Operations that don't look at the store. -/
def blind : Op → Bool
  | .move _ | .assign _ | .pick .. | .build .. | .buildSlice .. | .binOp .. | .unOp .. | .makeFunc .. | .fieldAddr .. | .field .. | .index .. | .extract .. | .nilCheck _ => true
  | _ => false

theorem val1_iff {σ : AS} {o : Option AV} {v : AV} : val1 σ o = some (.val v σ) ↔ o = some v := by
  cases o <;> simp [val1]

theorem blind_op {C : Ctx} {mq : Bool} {t : T} {σ τ : AS} {o : Op} (h : blind o = true) {v : AV} (ha : aOp C mq t σ o = some (.val v σ)) : aOp C mq t τ o = some (.val v τ) := by
  cases o <;> simp only [blind, Bool.false_eq_true] at h
  case makeFunc f a b =>
    cases f <;> simp only [aOp, Option.bind_eq_some_iff, Option.some.injEq, ANext.val.injEq, and_true, reduceCtorEq] at ha ⊢
    exact ha
  case pick c a b =>
    simp only [aOp, Option.bind_eq_some_iff] at ha ⊢
    obtain ⟨c', hc, ha⟩ := ha
    refine ⟨c', hc, ?_⟩
    cases c' <;> simp only [val1_iff, reduceCtorEq] at ha ⊢
    exact ha
  case nilCheck x =>
    simp only [aOp, Option.bind_eq_some_iff] at ha ⊢
    obtain ⟨c', hc, ha⟩ := ha
    refine ⟨c', hc, ?_⟩
    cases c' <;> simp only [Option.some.injEq, ANext.val.injEq, and_true, reduceCtorEq] at ha ⊢ <;> exact ha
  all_goals
    simp only [aOp, Option.bind_eq_some_iff, val1_iff] at ha ⊢
    exact ha

theorem quiet_blind {C : Ctx} {mq : Bool} {ops : Array Oper} {o : Oper} {t : T} {σ τ : AS} {v : AV} (h : blind o.op = true) (hq : quiet C mq ops o t σ v) : quiet C mq ops o t τ v :=
  hq.imp id fun ⟨hw, ha⟩ => ⟨hw, blind_op h ha⟩

/-! The check. -/

def depsOf (o : Oper) : List Nat := (o.after.toList.filter (Region.binds .any)).map (·.on)

def ancL (ops : Array Oper) : Nat → Nat → List Nat
  | 0, _ => []
  | n + 1, i => match ops[i]? with
    | some o => depsOf o ++ (depsOf o).flatMap (ancL ops n)
    | none => []

/-- 'pre': what stands ahead; 'seg': what stands at and behind the last that changes the store. -/
def planOk (ops : Array Oper) : List (Nat × Bool) → Option (List Nat) → List (Nat × Option (List Nat)) → Bool
  | pre, seg, [] => (List.range ops.size).all fun i => pre.any fun p => p.1 == i
  | pre, seg, (i, k) :: r => match ops[i]? with
    | none => false
    | some o =>
      pre.all (fun j => j.1 != i) &&
      (match seg with | none => true | some s => (depsOf o).any s.contains) &&
      (depsOf o).all (fun j => j < i) &&
      (List.range ops.size).all (fun j => match ops[j]? with
        | some oj => (match oj.dst with
          | some d => !(slots ops o).contains d || (pre.any (fun p => p.1 == j) && (depsOf o).contains j) || (!(pre.any fun p => p.1 == j) && ((depsOf oj).contains i || (j == i && k.isSome)))
          | none => true)
        | none => true) &&
      pre.all (fun j => match ops[j.1]? with | some oj => oj.dst.isNone || oj.dst != o.dst | none => true) &&
      (match k with
        | none => (match o.dst with | some d => pre.all (fun p => match ops[p.1]? with | some op => !(slots ops op).contains d | none => true) | none => true) && planOk ops ((i, false) :: pre) (seg.map (i :: ·)) r
        | some pl => pre.all (fun j => j.2 || pl.contains j.1 || (match ops[j.1]? with | some oj => blind oj.op | none => true) || (ancL ops 5 i).contains j.1) &&
          planOk ops ((i, true) :: pre) (some [i]) r)

theorem put_get {t t' : T} {d : Option Nat} {v : AV} (h : t.put d v = some t') : t'.n = t.n ∧ (∀ k, d ≠ some k → t'.get k = t.get k) ∧ (∀ k, d = some k → k < t.n ∧ t'.get k = v) := by
  cases d with
  | none => simp [T.put] at h; subst h; simp
  | some d =>
    simp only [T.put] at h
    split at h
    · rename_i hd
      simp at h; subst h
      refine ⟨rfl, fun k hk => ?_, fun k hk => ?_⟩
      · rw [get_set, if_neg (by intro e; exact hk (by rw [e]))]
      · simp at hk; subst hk; exact ⟨hd, by rw [get_set, if_pos rfl]⟩
    · simp at h

theorem put_some {t u : T} {d : Option Nat} {v : AV} {u' : T} (hn : t.n = u.n) (h : u.put d v = some u') : ∃ t', t.put d v = some t' := by
  cases d with
  | none => exact ⟨t, rfl⟩
  | some d =>
    simp only [T.put] at h ⊢
    split at h
    · rename_i hd; exact ⟨_, if_pos (by omega)⟩
    · simp at h

theorem again_put {C : Ctx} {mq : Bool} {ops : Array Oper} {o : Oper} {t t' : T} {σ : AS} {d : Option Nat} {v : AV} (h : again C mq ops o t σ) (hp : t.put d v = some t') (hs : ∀ k ∈ slots ops o, d ≠ some k) (hd : ∀ k, o.dst = some k → d ≠ some k) : again C mq ops o t' σ := by
  obtain ⟨hn, h1, _⟩ := put_get hp
  have hsame : Same t t' (slots ops o) := fun k hk => (h1 k (hs k hk)).symm
  unfold again at h ⊢
  cases ho : o.dst with
  | none => simp only [ho] at h ⊢; exact h.imp fun u hu => quiet_congr hsame hu
  | some k =>
    simp only [ho] at h ⊢
    exact ⟨by rw [hn]; exact h.1, by rw [h1 k (hd k ho)]; exact quiet_congr hsame h.2⟩

theorem doA_transfer {C : Ctx} {mq : Bool} {ops : Array Oper} {o : Oper} {t u : T} {σ : AS} {K K' : T → AS → Prop} (hs : Same t u (slots ops o)) (hn : t.n = u.n) (h : doA C mq ops o u σ K)
    (hk : ∀ v u' t' σ', u.put o.dst v = some u' → t.put o.dst v = some t' → K u' σ' → K' t' σ') : doA C mq ops o t σ K' := by
  have hput : ∀ v σ', (match u.put o.dst v with | some t' => K t' σ' | none => False) → (match t.put o.dst v with | some t' => K' t' σ' | none => False) := by
    intro v σ' hh
    cases hp : u.put o.dst v with
    | none => simp [hp] at hh
    | some u' =>
      simp only [hp] at hh
      obtain ⟨t', ht⟩ := put_some hn hp
      rw [ht]
      exact hk v u' t' σ' hp ht hh
  unfold doA at h ⊢
  rw [wanted_congr hs]
  cases hw : wantedA ops u o with
  | none => simp [hw] at h
  | some b =>
    cases b with
    | false => simp only [hw] at h ⊢; exact hput _ _ h
    | true =>
      simp only [hw] at h ⊢
      rw [op_congr hs]
      cases ha : aOp C mq u σ o.op with
      | none => simp [ha] at h
      | some r =>
        cases r with
        | val v σ' => simp only [ha] at h ⊢; exact hput _ _ h
        | enter f args => simp only [ha] at h ⊢; exact h.mono fun v σ' => hput v σ'

theorem doA_quiet {C : Ctx} {mq : Bool} {ops : Array Oper} {o : Oper} {t t' : T} {σ : AS} {K : T → AS → Prop} {v : AV} (h : quiet C mq ops o t σ v) (hp : t.put o.dst v = some t') (hk : K t' σ) : doA C mq ops o t σ K := by
  unfold doA
  rcases h with ⟨hw, rfl⟩ | ⟨hw, ha⟩
  · simp only [hw, hp]; exact hk
  · simp only [hw, ha, hp]; exact hk

/-! The check, read. -/

structure Chk (ops : Array Oper) (pre : List (Nat × Bool)) (seg : Option (List Nat)) (i : Nat) (o : Oper) (k : Bool) : Prop where
  at_ : ops[i]? = some o
  fresh : ∀ p ∈ pre, p.1 ≠ i
  seg : ∀ s, seg = some s → ∃ e ∈ depsOf o, e ∈ s
  back : ∀ e ∈ depsOf o, e < i
  slot : ∀ j oj d, ops[j]? = some oj → oj.dst = some d → d ∈ slots ops o → ((∃ p ∈ pre, p.1 = j) ∧ j ∈ depsOf o) ∨ ((∀ p ∈ pre, p.1 ≠ j) ∧ (i ∈ depsOf oj ∨ (j = i ∧ k = true)))
  dst : ∀ p ∈ pre, ∀ oj d, ops[p.1]? = some oj → oj.dst = some d → o.dst ≠ some d

theorem planOk_cons {ops : Array Oper} {pre : List (Nat × Bool)} {seg : Option (List Nat)} {i : Nat} {k : Option (List Nat)} {r : List (Nat × Option (List Nat))} (h : planOk ops pre seg ((i, k) :: r) = true) :
    ∃ o, Chk ops pre seg i o k.isSome ∧ (match k with
      | none => (∀ p ∈ pre, ∀ op d, ops[p.1]? = some op → o.dst = some d → d ∉ slots ops op) ∧ planOk ops ((i, false) :: pre) (seg.map (i :: ·)) r = true
      | some pl => (∀ p ∈ pre, p.2 = false → ∀ oj, ops[p.1]? = some oj → p.1 ∈ pl ∨ blind oj.op = true ∨ p.1 ∈ ancL ops 5 i) ∧ planOk ops ((i, true) :: pre) (some [i]) r = true) := by
  simp only [planOk] at h
  cases ho : ops[i]? with
  | none => simp [ho] at h
  | some o =>
    simp only [ho, Bool.and_eq_true] at h
    obtain ⟨⟨⟨⟨⟨h1, h2⟩, h3⟩, h4⟩, h5⟩, h6⟩ := h
    refine ⟨o, ⟨ho, ?_, ?_, ?_, ?_, ?_⟩, ?_⟩
    · intro p hp; simpa using List.all_eq_true.1 h1 p hp
    · intro s hs
      subst hs
      simpa using h2
    · intro e he; simpa using List.all_eq_true.1 h3 e he
    · intro j oj d hj hd hsl
      have hlt : j < ops.size := by
        rcases Nat.lt_or_ge j ops.size with h | h
        · exact h
        · rw [Array.getElem?_eq_none h] at hj; simp at hj
      have := List.all_eq_true.1 h4 j (List.mem_range.2 hlt)
      simp only [hj, hd, List.contains_iff_mem.2 hsl, Bool.not_true, Bool.false_or, Bool.or_eq_true, Bool.and_eq_true, List.any_eq_true, beq_iff_eq, List.contains_iff_mem, Bool.not_eq_true', List.any_eq_false] at this
      exact this
    · intro p hp oj d hj hd he
      have := List.all_eq_true.1 h5 p hp
      simp [hj, hd, he] at this
    · cases k with
      | none =>
        simp only [Bool.and_eq_true] at h6
        refine ⟨fun p hp op d hop hd hm => ?_, h6.2⟩
        have h7 := h6.1
        simp only [hd] at h7
        have := List.all_eq_true.1 h7 p hp
        simp [hop, hm] at this
      | some pl =>
        simp only [Bool.and_eq_true] at h6
        refine ⟨?_, h6.2⟩
        intro p hp hf oj hj
        have := List.all_eq_true.1 h6.1 p hp
        simp only [hf, hj, Bool.false_or, Bool.or_eq_true, List.contains_iff_mem, or_assoc] at this
        exact this

theorem plan_covers {ops : Array Oper} : ∀ {r : List (Nat × Option (List Nat))} {pre : List (Nat × Bool)} {seg : Option (List Nat)}, planOk ops pre seg r = true → ∀ i, i < ops.size → (∃ p ∈ pre, p.1 = i) ∨ ∃ q ∈ r, q.1 = i
  | [], pre, seg, h, i, hi => by
    simp only [planOk] at h
    have := List.all_eq_true.1 h i (List.mem_range.2 hi)
    simp only [List.any_eq_true, beq_iff_eq] at this
    exact .inl this
  | (a, k) :: r, pre, seg, h, i, hi => by
    obtain ⟨o, _, hr⟩ := planOk_cons h
    have : ∃ b seg', planOk ops ((a, b) :: pre) seg' r = true := by
      cases k with
      | none => exact ⟨_, _, hr.2⟩
      | some pl => exact ⟨_, _, hr.2⟩
    obtain ⟨b, seg', hr⟩ := this
    rcases plan_covers hr i hi with ⟨p, hp, he⟩ | ⟨q, hq, he⟩
    · rcases List.mem_cons.1 hp with rfl | hp
      · exact .inr ⟨_, List.mem_cons_self, he⟩
      · exact .inl ⟨p, hp, he⟩
    · exact .inr ⟨q, List.mem_cons_of_mem _ hq, he⟩

theorem plan_fresh {ops : Array Oper} : ∀ {r : List (Nat × Option (List Nat))} {pre : List (Nat × Bool)} {seg : Option (List Nat)}, planOk ops pre seg r = true → ∀ q ∈ r, ∀ p ∈ pre, p.1 ≠ q.1
  | [], pre, seg, h, q, hq => by simp at hq
  | (a, k) :: r, pre, seg, h, q, hq => by
    intro p hp
    obtain ⟨o, hc, hr⟩ := planOk_cons h
    have : ∃ b seg', planOk ops ((a, b) :: pre) seg' r = true := by
      cases k with
      | none => exact ⟨_, _, hr.2⟩
      | some pl => exact ⟨_, _, hr.2⟩
    obtain ⟨b, seg', hr⟩ := this
    rcases List.mem_cons.1 hq with rfl | hq
    · exact hc.fresh p hp
    · exact plan_fresh hr q hq p (List.mem_cons_of_mem _ hp)

theorem plan_late {ops : Array Oper} : ∀ {r : List (Nat × Option (List Nat))} {pre : List (Nat × Bool)} {s : List Nat}, planOk ops pre (some s) r = true → ∀ q ∈ r, ∃ o, ops[q.1]? = some o ∧ ∃ e ∈ depsOf o, e ∈ s ∨ ∃ q' ∈ r, q'.1 = e
  | [], pre, seg, h, q, hq => by simp at hq
  | (a, k) :: r, pre, s, h, q, hq => by
    obtain ⟨o, hc, hr⟩ := planOk_cons h
    rcases List.mem_cons.1 hq with rfl | hq
    · obtain ⟨e, he, hs⟩ := hc.seg s rfl
      exact ⟨o, hc.at_, e, he, .inl hs⟩
    · have : ∃ b s', planOk ops ((a, b) :: pre) (some s') r = true ∧ ∀ e ∈ s', e ∈ s ∨ e = a := by
        cases k with
        | none => exact ⟨_, _, hr.2, fun e he => by simp at he; exact he.symm⟩
        | some pl => exact ⟨_, _, hr.2, fun e he => by simp at he; exact .inr he⟩
      obtain ⟨b, s', hr, hs'⟩ := this
      obtain ⟨o', ho', e, he, hx⟩ := plan_late hr q hq
      refine ⟨o', ho', e, he, ?_⟩
      rcases hx with hx | ⟨q', hq', rfl⟩
      · rcases hs' e hx with h | rfl
        · exact .inl h
        · exact .inr ⟨_, List.mem_cons_self, rfl⟩
      · exact .inr ⟨q', List.mem_cons_of_mem _ hq', rfl⟩

theorem anc_listed {ops : Array Oper} {L : Nat → Bool} (hdown : ∀ j o, L j = true → ops[j]? = some o → ∀ e ∈ depsOf o, L e = true) : ∀ (n i : Nat) (o : Oper), ops[i]? = some o → (∀ e ∈ depsOf o, L e = true) → ∀ j ∈ ancL ops n i, L j = true
  | 0, i, o, ho, h, j, hj => by simp [ancL] at hj
  | n + 1, i, o, ho, h, j, hj => by
    simp only [ancL, ho, List.mem_append, List.mem_flatMap] at hj
    rcases hj with hj | ⟨e, he, hj⟩
    · exact h j hj
    · cases hoe : ops[e]? with
      | none => cases n <;> simp [ancL, hoe] at hj
      | some oe => exact anc_listed hdown n e oe hoe (hdown e oe (h e he) hoe) j hj

/-- Where an order stands, beside the one that is told. -/
structure Inv (C : Ctx) (mq : Bool) (ops : Array Oper) (Q : T → AS → Prop) (L : Nat → Bool) (t : T) (σ : AS) (pre : List (Nat × Bool)) (seg : Option (List Nat)) (rest : List (Nat × Option (List Nat))) (tc : T) : Prop where
  n : t.n = tc.n
  inPre : ∀ j, L j = true → ∃ p ∈ pre, p.1 = j
  act : ∀ p ∈ pre, p.2 = true → L p.1 = true
  get : ∀ d, (∀ j o, ops[j]? = some o → o.dst = some d → L j = true ∨ ∀ p ∈ pre, p.1 ≠ j) → t.get d = tc.get d
  ag : ∀ p ∈ pre, p.2 = false → L p.1 = false → ∀ o, ops[p.1]? = some o → again C mq ops o tc σ
  down : ∀ j o, L j = true → ops[j]? = some o → ∀ e ∈ depsOf o, L e = true
  sl : ∀ p ∈ pre, ∀ o, ops[p.1]? = some o → ∀ j oj d, ops[j]? = some oj → oj.dst = some d → d ∈ slots ops o → ((∃ q ∈ pre, q.1 = j) ∧ j ∈ depsOf o) ∨ p.1 ∈ depsOf oj ∨ (j = p.1 ∧ p.2 = true)
  qs : ∀ p ∈ pre, ∀ q ∈ pre, q.2 = false → ∀ op oq d, ops[p.1]? = some op → ops[q.1]? = some oq → oq.dst = some d → d ∈ slots ops op → q.1 ∈ depsOf op
  dst : ∀ p ∈ pre, ∀ q ∈ pre, p.1 ≠ q.1 → ∀ o o' d, ops[p.1]? = some o → ops[q.1]? = some o' → o.dst = some d → o'.dst ≠ some d
  ok : planOk ops pre seg rest = true
  can : canonW C mq ops Q rest tc σ

theorem Inv.advance {C : Ctx} {mq : Bool} {ops : Array Oper} {Q : T → AS → Prop} {L : Nat → Bool} {t : T} {σ : AS} : ∀ {rest : List (Nat × Option (List Nat))} {pre : List (Nat × Bool)} {seg : Option (List Nat)} {tc : T}, Inv C mq ops Q L t σ pre seg rest tc →
    ∃ pre' seg' rest' tc', Inv C mq ops Q L t σ pre' seg' rest' tc' ∧ (∀ q r, rest' = q :: r → ∃ pl, q.2 = some pl)
  | [], pre, seg, tc, h => ⟨pre, seg, [], tc, h, by intro q r hq; simp at hq⟩
  | (i, some pl) :: rest, pre, seg, tc, h => ⟨pre, seg, _, tc, h, by intro q r hq; simp at hq; exact ⟨pl, by rw [← hq.1]⟩⟩
  | (i, none) :: rest, pre, seg, tc, h => by
    obtain ⟨o, hc, hr⟩ := planOk_cons h.ok
    obtain ⟨o', v, tc', ho', hq, hp, hcan⟩ := canonW_quiet h.can
    have : o' = o := by rw [hc.at_] at ho'; exact (Option.some.inj ho').symm
    subst this
    obtain ⟨hn, hg1, hg2⟩ := put_get hp
    have hLi : L i = false := by
      cases hL : L i with
      | false => rfl
      | true => obtain ⟨p, hp', he⟩ := h.inPre i hL; exact absurd he (hc.fresh p hp')
    have hself : ∀ k ∈ slots ops o', o'.dst ≠ some k := fun k hk he => by
      rcases hc.slot i o' k hc.at_ he hk with ⟨⟨p, hp', hpe⟩, _⟩ | ⟨_, h2 | ⟨_, h2⟩⟩
      · exact hc.fresh p hp' hpe
      · exact absurd (hc.back i h2) (Nat.lt_irrefl _)
      · simp at h2
    refine Inv.advance (rest := rest) (pre := (i, false) :: pre) (seg := seg.map (i :: ·)) (tc := tc') ⟨?_, ?_, ?_, ?_, ?_, h.down, ?_, ?_, ?_, hr.2, hcan⟩
    · rw [hn]; exact h.n
    · intro j hj; obtain ⟨p, hp', he⟩ := h.inPre j hj; exact ⟨p, List.mem_cons_of_mem _ hp', he⟩
    · intro p hp' hb
      rcases List.mem_cons.1 hp' with rfl | hp'
      · simp at hb
      · exact h.act p hp' hb
    · intro d hd
      have : o'.dst ≠ some d := fun he => by
        rcases hd i o' hc.at_ he with h1 | h1
        · rw [hLi] at h1; simp at h1
        · exact h1 _ List.mem_cons_self rfl
      rw [hg1 d this]
      exact h.get d fun j oj hj hdj => (hd j oj hj hdj).imp_right fun h2 p hp' => h2 p (List.mem_cons_of_mem _ hp')
    · intro p hp' hb hL oj hoj
      rcases List.mem_cons.1 hp' with rfl | hp'
      · simp only at hoj
        have : oj = o' := by rw [hc.at_] at hoj; exact (Option.some.inj hoj).symm
        subst this
        have hs : Same tc tc' (slots ops oj) := fun k hk => (hg1 k (hself k hk)).symm
        unfold again
        cases hd : oj.dst with
        | none => exact ⟨v, quiet_congr hs hq⟩
        | some k =>
          obtain ⟨h1, h2⟩ := hg2 k hd
          simp only
          exact ⟨by rw [hn]; exact h1, by rw [h2]; exact quiet_congr hs hq⟩
      · refine again_put (h.ag p hp' hb hL oj hoj) hp ?_ ?_
        · intro k hk he
          exact hr.1 p hp' oj k hoj he hk
        · intro k hk; exact hc.dst p hp' oj k hoj hk
    · intro p hp' oj hoj j oj' d hj hd hs
      rcases List.mem_cons.1 hp' with rfl | hp'
      · have : oj = o' := by rw [hc.at_] at hoj; exact (Option.some.inj hoj).symm
        subst this
        rcases hc.slot j oj' d hj hd hs with ⟨⟨q, hq', hqe⟩, h2⟩ | ⟨_, h2 | ⟨_, h2⟩⟩
        · exact .inl ⟨⟨q, List.mem_cons_of_mem _ hq', hqe⟩, h2⟩
        · exact .inr (.inl h2)
        · simp at h2
      · rcases h.sl p hp' oj hoj j oj' d hj hd hs with ⟨⟨q, hq', hqe⟩, h2⟩ | h2
        · exact .inl ⟨⟨q, List.mem_cons_of_mem _ hq', hqe⟩, h2⟩
        · exact .inr h2
    · intro p hp' q hq' hb op oq d hop hoq hd hs
      rcases List.mem_cons.1 hp' with rfl | hp'
      · have : op = o' := by rw [hc.at_] at hop; exact (Option.some.inj hop).symm
        subst this
        rcases List.mem_cons.1 hq' with rfl | hq'
        · have : oq = op := by rw [hc.at_] at hoq; exact (Option.some.inj hoq).symm
          subst this
          exact absurd hd (hself d hs)
        · rcases hc.slot q.1 oq d hoq hd hs with ⟨_, h2⟩ | ⟨h1, _⟩
          · exact h2
          · exact absurd rfl (h1 q hq')
      · rcases List.mem_cons.1 hq' with rfl | hq'
        · have : oq = o' := by rw [hc.at_] at hoq; exact (Option.some.inj hoq).symm
          subst this
          exact absurd hs (hr.1 p hp' op d hop hd)
        · exact h.qs p hp' q hq' hb op oq d hop hoq hd hs
    · intro p hp' q hq' hne o1 o2 d h1 h2 hd1 hd2
      rcases List.mem_cons.1 hp' with rfl | hp' <;> rcases List.mem_cons.1 hq' with rfl | hq'
      · exact hne rfl
      · have : o1 = o' := by rw [hc.at_] at h1; exact (Option.some.inj h1).symm
        subst this
        exact hc.dst q hq' o2 d h2 hd2 hd1
      · have : o2 = o' := by rw [hc.at_] at h2; exact (Option.some.inj h2).symm
        subst this
        exact hc.dst p hp' o1 d h1 hd1 hd2
      · exact h.dst p hp' q hq' hne o1 o2 d h1 h2 hd1 hd2

/-- A ready operation finds its slots as they are told. -/
theorem Inv.same {C : Ctx} {mq : Bool} {ops : Array Oper} {Q : T → AS → Prop} {L : Nat → Bool} {t : T} {σ : AS} {pre : List (Nat × Bool)} {seg : Option (List Nat)} {rest : List (Nat × Option (List Nat))} {tc : T} (h : Inv C mq ops Q L t σ pre seg rest tc) {o : Oper}
    (hr : ∀ e ∈ depsOf o, L e = true) (hs : ∀ j oj d, ops[j]? = some oj → oj.dst = some d → d ∈ slots ops o → j ∈ depsOf o ∨ ∀ p ∈ pre, p.1 ≠ j) : Same t tc (slots ops o) := by
  intro d hd
  exact h.get d fun j oj hj hdj => (hs j oj d hj hdj hd).imp_left fun h1 => hr j h1

/-- As above, of one that stands ahead. -/
theorem Inv.sameP {C : Ctx} {mq : Bool} {ops : Array Oper} {Q : T → AS → Prop} {L : Nat → Bool} {t : T} {σ : AS} {pre : List (Nat × Bool)} {seg : Option (List Nat)} {rest : List (Nat × Option (List Nat))} {tc : T} (h : Inv C mq ops Q L t σ pre seg rest tc) {o : Oper} {i : Nat}
    (ho : ops[i]? = some o) (hi : (i, false) ∈ pre) (hL : L i = false) (hr : ∀ e ∈ depsOf o, L e = true) : Same t tc (slots ops o) := by
  intro d hd
  refine h.get d fun j oj hj hdj => ?_
  rcases h.sl _ hi o ho j oj d hj hdj hd with ⟨_, h1⟩ | h1 | ⟨_, h1⟩
  · exact .inl (hr j h1)
  · by_cases hp : ∃ p ∈ pre, p.1 = j
    · obtain ⟨q, hq, rfl⟩ := hp
      cases hb : q.2 with
      | true => exact .inl (h.act q hq hb)
      | false => exact .inl (hr _ (h.qs _ hi q hq hb o oj d ho hj hdj hd))
    · exact .inr fun p hp' he => hp ⟨p, hp', he⟩
  · simp at h1

theorem Inv.quiet {C : Ctx} {mq : Bool} {ops : Array Oper} {Q : T → AS → Prop} {L L' : Nat → Bool} {t : T} {σ : AS} {pre : List (Nat × Bool)} {seg : Option (List Nat)} {rest : List (Nat × Option (List Nat))} {tc : T} (h : Inv C mq ops Q L t σ pre seg rest tc)
    {i : Nat} {o : Oper} (ho : ops[i]? = some o) (hi : (i, false) ∈ pre) (hL : L i = false) (hr : ∀ e ∈ depsOf o, L e = true) (hL1 : L' i = true) (hL2 : ∀ j, j ≠ i → L' j = L j) :
    ∃ v t', Go.W.quiet C mq ops o t σ v ∧ t.put o.dst v = some t' ∧ Inv C mq ops Q L' t' σ pre seg rest tc := by
  have hag := h.ag _ hi rfl hL o ho
  have hsame : Same tc t (slots ops o) := fun d hd => (h.sameP ho hi hL hr d hd).symm
  have hx : ∃ v t', Go.W.quiet C mq ops o t σ v ∧ t.put o.dst v = some t' ∧ (∀ k, o.dst = some k → v = tc.get k) := by
    unfold again at hag
    cases hd : o.dst with
    | none =>
      simp only [hd] at hag
      obtain ⟨v, hv⟩ := hag
      exact ⟨v, t, quiet_congr hsame hv, rfl, fun k hk => by simp at hk⟩
    | some k =>
      simp only [hd] at hag
      refine ⟨_, t.set k (tc.get k), quiet_congr hsame hag.2, ?_, fun k' hk => by simp at hk; rw [hk]⟩
      simp only [T.put]
      rw [if_pos (by rw [h.n]; exact hag.1)]
  obtain ⟨v, t', hq, hp, hv⟩ := hx
  obtain ⟨hn, hg1, hg2⟩ := put_get hp
  have up : ∀ j, L j = true → L' j = true := fun j hj => by
    by_cases e : j = i
    · subst e; exact hL1
    · rw [hL2 j e]; exact hj
  refine ⟨v, t', hq, hp, ⟨by rw [hn]; exact h.n, ?_, ?_, ?_, ?_, ?_, h.sl, h.qs, h.dst, h.ok, h.can⟩⟩
  · intro j hj
    by_cases e : j = i
    · subst e; exact ⟨_, hi, rfl⟩
    · exact h.inPre j (by rw [← hL2 j e]; exact hj)
  · intro p hp' hb; exact up _ (h.act p hp' hb)
  · intro d hd
    by_cases e : o.dst = some d
    · rw [(hg2 d e).2, hv d e]
    · rw [hg1 d e]
      refine h.get d fun j oj hj hdj => (hd j oj hj hdj).imp_left fun this => ?_
      by_cases e' : j = i
      · subst e'; rw [ho] at hj; exact absurd (Option.some.inj hj ▸ hdj) e
      · rw [← hL2 j e']; exact this
  · intro p hp' hb hLp
    refine h.ag p hp' hb ?_
    by_cases e : p.1 = i
    · rw [e, hL1] at hLp; simp at hLp
    · rw [← hL2 _ e]; exact hLp
  · intro j oj hj hoj e he
    by_cases e' : j = i
    · subst e'
      rw [ho] at hoj
      exact up e (hr e (Option.some.inj hoj ▸ he))
    · exact up e (h.down j oj (by rw [← hL2 j e']; exact hj) hoj e he)

theorem Inv.active {C : Ctx} {mq : Bool} {ops : Array Oper} {Q : T → AS → Prop} {L L' : Nat → Bool} {t : T} {σ : AS} {pre : List (Nat × Bool)} {seg : Option (List Nat)} {pl : List Nat} {rest : List (Nat × Option (List Nat))} {tc : T}
    {i : Nat} (h : Inv C mq ops Q L t σ pre seg ((i, some pl) :: rest) tc) {o : Oper} (ho : ops[i]? = some o) (hr : ∀ e ∈ depsOf o, L e = true) (hL1 : L' i = true) (hL2 : ∀ j, j ≠ i → L' j = L j) {K : T → AS → Prop}
    (hK : ∀ t' σ' tc', Inv C mq ops Q L' t' σ' ((i, true) :: pre) (some [i]) rest tc' → K t' σ') : doA C mq ops o t σ K := by
  obtain ⟨o', hc, hchk, hok⟩ := planOk_cons h.ok
  have : o' = o := by have := hc.at_; rw [ho] at this; exact (Option.some.inj this).symm
  subst this
  have hcan := h.can
  simp only [canonW, ho] at hcan
  have hsame := h.same hr fun j oj d hj hd hs => (hc.slot j oj d hj hd hs).imp (fun x => x.2) (fun x => x.1)
  refine doA_transfer hsame h.n hcan fun v tc' t' σ' hpc hp hk => ?_
  obtain ⟨hpl, hcan'⟩ := hk
  obtain ⟨hn, hg1, hg2⟩ := put_get hp
  obtain ⟨hnc, hgc1, hgc2⟩ := put_get hpc
  have up : ∀ j, L j = true → L' j = true := fun j hj => by
    by_cases e : j = i
    · subst e; exact hL1
    · rw [hL2 j e]; exact hj
  refine hK t' σ' tc' ⟨?_, ?_, ?_, ?_, ?_, ?_, ?_, ?_, ?_, hok, hcan'⟩
  · rw [hn, hnc]; exact h.n
  · intro j hj
    by_cases e : j = i
    · subst e; exact ⟨_, List.mem_cons_self, rfl⟩
    · obtain ⟨p, hp', he⟩ := h.inPre j (by rw [← hL2 j e]; exact hj)
      exact ⟨p, List.mem_cons_of_mem _ hp', he⟩
  · intro p hp' hb
    rcases List.mem_cons.1 hp' with rfl | hp'
    · exact hL1
    · exact up _ (h.act p hp' hb)
  · intro d hd
    by_cases e : o'.dst = some d
    · rw [(hg2 d e).2, (hgc2 d e).2]
    · rw [hg1 d e, hgc1 d e]
      refine h.get d fun j oj hj hdj => ?_
      rcases hd j oj hj hdj with this | this
      · by_cases e' : j = i
        · subst e'; rw [ho] at hj; exact absurd (Option.some.inj hj ▸ hdj) e
        · rw [← hL2 j e']; exact .inl this
      · exact .inr fun p hp' => this p (List.mem_cons_of_mem _ hp')
  · intro p hp' hb hLp oj hoj
    rcases List.mem_cons.1 hp' with rfl | hp'
    · simp at hb
    · have hLp' : L p.1 = false := by
        rw [← hL2 p.1 (hc.fresh p hp')]; exact hLp
      rcases hchk p hp' hb oj hoj with hm | hm | hm
      · have := hpl p.1 hm
        simp only [hoj] at this
        exact this
      · have := h.ag p hp' hb hLp' oj hoj
        have h2 : again C mq ops oj tc' σ := by
          refine again_put this hpc ?_ ?_
          · intro k hk he
            rcases h.sl p hp' oj hoj i o' k ho he hk with ⟨⟨q, hq', hqe⟩, _⟩ | h1 | ⟨h1, _⟩
            · exact hc.fresh q hq' hqe
            · have := hr _ h1; rw [hLp'] at this; simp at this
            · exact hc.fresh p hp' h1.symm
          · intro k hk; exact hc.dst p hp' oj k hoj hk
        unfold again at h2 ⊢
        cases hd : oj.dst with
        | none => simp only [hd] at h2 ⊢; exact h2.imp fun u hu => quiet_blind hm hu
        | some k => simp only [hd] at h2 ⊢; exact ⟨h2.1, quiet_blind hm h2.2⟩
      · have := anc_listed h.down 5 i o' ho hr p.1 hm
        rw [this] at hLp'; simp at hLp'
  · intro j oj hj hoj e he
    by_cases e' : j = i
    · subst e'
      rw [ho] at hoj
      exact up e (hr e (Option.some.inj hoj ▸ he))
    · exact up e (h.down j oj (by rw [← hL2 j e']; exact hj) hoj e he)
  · intro p hp' oj hoj j oj' d hj hd hs
    rcases List.mem_cons.1 hp' with rfl | hp'
    · have : oj = o' := by rw [ho] at hoj; exact (Option.some.inj hoj).symm
      subst this
      rcases hc.slot j oj' d hj hd hs with ⟨⟨q, hq', hqe⟩, h2⟩ | ⟨_, h2 | ⟨h2, _⟩⟩
      · exact .inl ⟨⟨q, List.mem_cons_of_mem _ hq', hqe⟩, h2⟩
      · exact .inr (.inl h2)
      · exact .inr (.inr ⟨h2, rfl⟩)
    · rcases h.sl p hp' oj hoj j oj' d hj hd hs with ⟨⟨q, hq', hqe⟩, h2⟩ | h2
      · exact .inl ⟨⟨q, List.mem_cons_of_mem _ hq', hqe⟩, h2⟩
      · exact .inr h2
  · intro p hp' q hq' hb op oq d hop hoq hd hs
    rcases List.mem_cons.1 hq' with rfl | hq'
    · simp at hb
    · rcases List.mem_cons.1 hp' with rfl | hp'
      · have : op = o' := by rw [ho] at hop; exact (Option.some.inj hop).symm
        subst this
        rcases hc.slot q.1 oq d hoq hd hs with ⟨_, h2⟩ | ⟨h1, _⟩
        · exact h2
        · exact absurd rfl (h1 q hq')
      · exact h.qs p hp' q hq' hb op oq d hop hoq hd hs
  · intro p hp' q hq' hne o1 o2 d h1 h2 hd1 hd2
    rcases List.mem_cons.1 hp' with rfl | hp' <;> rcases List.mem_cons.1 hq' with rfl | hq'
    · exact hne rfl
    · have : o1 = o' := by rw [ho] at h1; exact (Option.some.inj h1).symm
      subst this
      exact hc.dst q hq' o2 d h2 hd2 hd1
    · have : o2 = o' := by rw [ho] at h2; exact (Option.some.inj h2).symm
      subst this
      exact hc.dst p hp' o1 d h1 hd1 hd2
    · exact h.dst p hp' q hq' hne o1 o2 d h1 h2 hd1 hd2

/-- All is carried out. -/
theorem Inv.done {C : Ctx} {mq : Bool} {ops : Array Oper} {Q : T → AS → Prop} {L : Nat → Bool} {t : T} {σ : AS} {pre : List (Nat × Bool)} {seg : Option (List Nat)} {rest : List (Nat × Option (List Nat))} {tc : T} (h : Inv C mq ops Q L t σ pre seg rest tc)
    (hall : ∀ i, i < ops.size → L i = true) : Q t σ := by
  cases rest with
  | cons q r =>
    obtain ⟨i, k⟩ := q
    obtain ⟨o, hc, _⟩ := planOk_cons h.ok
    have hi : i < ops.size := by
      rcases Nat.lt_or_ge i ops.size with h | h
      · exact h
      · have := hc.at_; rw [Array.getElem?_eq_none h] at this; simp at this
    obtain ⟨p, hp, he⟩ := h.inPre i (hall i hi)
    exact absurd he (hc.fresh p hp)
  | nil =>
    have : t = tc := T.ext' h.n fun d => h.get d fun j o hj _ => .inl <| hall j (by
      rcases Nat.lt_or_ge j ops.size with h | h
      · exact h
      · rw [Array.getElem?_eq_none h] at hj; simp at hj)
    rw [this]
    have := h.can
    simpa only [canonW] using this

theorem plan_back {ops : Array Oper} : ∀ {r : List (Nat × Option (List Nat))} {pre : List (Nat × Bool)} {seg : Option (List Nat)}, planOk ops pre seg r = true → ∀ q ∈ r, ∀ o, ops[q.1]? = some o → ∀ e ∈ depsOf o, e < q.1
  | [], pre, seg, h, q, hq => by simp at hq
  | (a, k) :: r, pre, seg, h, q, hq => by
    obtain ⟨o, hc, hr⟩ := planOk_cons h
    have : ∃ b seg', planOk ops ((a, b) :: pre) seg' r = true := by
      cases k with
      | none => exact ⟨_, _, hr.2⟩
      | some pl => exact ⟨_, _, hr.2⟩
    obtain ⟨b, seg', hr⟩ := this
    rcases List.mem_cons.1 hq with rfl | hq
    · intro o' ho' e he
      have : o' = o := by have := hc.at_; rw [ho'] at this; exact Option.some.inj this
      subst this
      exact hc.back e he
    · exact plan_back hr q hq

theorem mem_depsOf {o : Oper} {e : Nat} : e ∈ depsOf o ↔ ∃ x ∈ o.after.toList, Region.binds .any x = true ∧ x.on = e := by
  simp [depsOf, and_assoc]

theorem getD_true_false {a : Array Bool} {i : Nat} (h : i < a.size) : a.getD i true = a.getD i false := by
  simp [Array.getD, h]

theorem go_ok {C : Ctx} {mq : Bool} {ops : Array Oper} {Q : T → AS → Prop} (hback : ∀ i o, ops[i]? = some o → ∀ e ∈ depsOf o, e < i) : ∀ (fuel tt : Nat) (listed : Array Bool) (t : T) (σ : AS) (pre : List (Nat × Bool)) (seg : Option (List Nat)) (rest : List (Nat × Option (List Nat))) (tc : T),
    listed.size = ops.size → Inv C mq ops Q (fun j => listed.getD j false) t σ pre seg rest tc → ((List.range ops.size).filter fun j => !listed.getD j false).length ≤ fuel → opsW C mq ops Q (Region.linearise.go .any ops fuel tt listed []) t σ := by
  intro fuel
  induction fuel with
  | zero =>
    intro tt listed t σ pre seg rest tc hsz h hf
    simp only [Region.linearise.go, List.reverse_nil, opsW]
    refine h.done fun i hi => ?_
    have hnil := List.eq_nil_of_length_eq_zero (Nat.le_zero.1 hf)
    have := List.filter_eq_nil_iff.1 hnil i (List.mem_range.2 hi)
    simpa using this
  | succ fuel ih =>
    intro tt listed t σ pre seg rest tc hsz h hf
    obtain ⟨pre, seg, rest, tc, h, hhd⟩ := h.advance
    simp only [Region.linearise.go]
    change opsW C mq ops Q (match (Region.ready .any ops listed)[tt % (Region.ready .any ops listed).length]? with
      | some i => Region.linearise.go .any ops fuel (tt / (Region.ready .any ops listed).length) (listed.setIfInBounds i true) [i]
      | none => [].reverse) t σ
    cases hi : (Region.ready .any ops listed)[tt % (Region.ready .any ops listed).length]? with
    | none =>
      have hnil : Region.ready .any ops listed = [] := by
        cases hr : Region.ready .any ops listed with
        | nil => rfl
        | cons x xs =>
          rw [hr] at hi
          have hlt : tt % (x :: xs).length < (x :: xs).length := Nat.mod_lt _ (by simp)
          simp at hi
          simp at hlt
          omega
      simp only [List.reverse_nil, opsW]
      refine h.done fun i => ?_
      induction i using Nat.strongRecOn with
      | _ i ihi =>
        intro hlt
        cases hL : listed.getD i false with
        | true => rfl
        | false =>
          exfalso
          have hmem : i ∈ Region.ready .any ops listed := by
            rw [mem_ready]
            refine ⟨by rw [getD_true_false (by omega)]; exact hL, ops[i], by simp [hlt], fun e he hb => ?_⟩
            have hd : e.on ∈ depsOf ops[i] := mem_depsOf.2 ⟨e, by simpa using he, hb, rfl⟩
            have hlt' := hback i ops[i] (by simp [hlt]) e.on hd
            exact ihi e.on hlt' (by omega)
          rw [hnil] at hmem; simp at hmem
    | some i =>
      simp only []
      rw [linearise_go_acc, List.reverse_singleton, List.singleton_append]
      have hmem := List.mem_of_getElem? hi
      rw [mem_ready] at hmem
      obtain ⟨hLt, o, ho, hdep⟩ := hmem
      have hlt : i < ops.size := (Array.getElem?_eq_some_iff.1 ho).1
      have hL : listed.getD i false = false := by rw [← getD_true_false (by omega)]; exact hLt
      have hr : ∀ e ∈ depsOf o, listed.getD e false = true := fun e he => by
        obtain ⟨x, hx, hb, rfl⟩ := mem_depsOf.1 he
        exact hdep x (by simpa using hx) hb
      have hL1 : (listed.setIfInBounds i true).getD i false = true := by simp [hsz, hlt]
      have hL2 : ∀ j, j ≠ i → (listed.setIfInBounds i true).getD j false = listed.getD j false := fun j hj => getD_set_ne false (Ne.symm hj)
      have hf' : ((List.range ops.size).filter fun j => !(listed.setIfInBounds i true).getD j false).length ≤ fuel := by
        have h1 : ((List.range ops.size).filter fun j => !(listed.setIfInBounds i true).getD j false) = ((List.range ops.size).filter fun j => !listed.getD j false).filter fun j => j != i := by
          rw [List.filter_filter]
          refine List.filter_congr fun j hj => ?_
          by_cases e : j = i
          · subst e; simp [hL1]
          · rw [hL2 j e]; simp [e]
        have h2 : i ∈ (List.range ops.size).filter fun j => !listed.getD j false := List.mem_filter.2 ⟨List.mem_range.2 hlt, by simpa using hL⟩
        have h3 := List.length_filter_lt_length_iff_exists (p := fun j => j != i) (l := (List.range ops.size).filter fun j => !listed.getD j false) |>.2 ⟨i, h2, by simp⟩
        rw [h1]; omega
      rw [opsW_cons ho]
      rcases plan_covers h.ok i hlt with ⟨p, hp, rfl⟩ | ⟨q, hq, rfl⟩
      · have hpf : p.2 = false := by
          cases hb : p.2 with
          | false => rfl
          | true => have := h.act p hp hb; rw [hL] at this; simp at this
        have hp' : (p.1, false) ∈ pre := by rw [← hpf]; exact hp
        obtain ⟨v, t', hq, hput, hI⟩ := h.quiet ho hp' hL hr (L' := fun j => (listed.setIfInBounds p.1 true).getD j false) hL1 hL2
        exact doA_quiet hq hput (ih _ _ t' σ pre seg rest tc (by simp [hsz]) hI hf')
      · cases rest with
        | nil => simp at hq
        | cons q0 r =>
          obtain ⟨i0, k⟩ := q0
          obtain ⟨pl, hk⟩ := hhd _ _ rfl
          simp only at hk; subst hk
          rcases List.mem_cons.1 hq with rfl | hq
          · refine h.active ho hr (L' := fun j => (listed.setIfInBounds i0 true).getD j false) hL1 hL2 fun t' σ' tc' hI => ?_
            exact ih _ _ t' σ' _ _ _ tc' (by simp [hsz]) hI hf'
          · exfalso
            obtain ⟨o0, hc0, _, hok⟩ := planOk_cons h.ok
            obtain ⟨o', ho', e, he, hx⟩ := plan_late hok q hq
            have : o' = o := by rw [ho] at ho'; exact (Option.some.inj ho').symm
            subst this
            have hLe := hr e he
            obtain ⟨p, hp, hpe⟩ := h.inPre e hLe
            rcases hx with hx | ⟨q', hq', hqe⟩
            · simp only [List.mem_singleton] at hx
              subst hx
              exact hc0.fresh p hp hpe
            · subst hqe
              exact plan_fresh h.ok q' (List.mem_cons_of_mem _ hq') p hp hpe

/-- One order for all. -/
theorem canon_all {C : Ctx} {mq : Bool} {ops : Array Oper} {Q : T → AS → Prop} {plan : List (Nat × Option (List Nat))} {t : T} {σ : AS} (hok : planOk ops [] none plan = true) (h : canonW C mq ops Q plan t σ) (tt : Nat) :
    opsW C mq ops Q (Region.linearise .any ops tt) t σ := by
  have hback : ∀ i o, ops[i]? = some o → ∀ e ∈ depsOf o, e < i := by
    intro i o ho e he
    have hlt : i < ops.size := (Array.getElem?_eq_some_iff.1 ho).1
    rcases plan_covers hok i hlt with ⟨p, hp, _⟩ | ⟨q, hq, rfl⟩
    · simp at hp
    · exact plan_back hok q hq o ho e he
  have hrep : ∀ j, (Array.replicate ops.size false).getD j false = false := by
    intro j
    simp only [Array.getD_eq_getD_getElem?, Array.getElem?_replicate]
    split <;> rfl
  refine go_ok hback ops.size tt _ t σ [] none plan t (by simp) ⟨rfl, ?_, ?_, fun _ _ => rfl, ?_, ?_, ?_, ?_, ?_, hok, h⟩ ?_
  · intro j hj; simp only [hrep] at hj; simp at hj
  · intro p hp; simp at hp
  · intro p hp; simp at hp
  · intro j o hj; simp only [hrep] at hj; simp at hj
  · intro p hp; simp at hp
  · intro p hp; simp at hp
  · intro p hp; simp at hp
  · exact Nat.le_trans (List.length_filter_le _ _) (by simp)

theorem wp_draw {C : Ctx} {f : FuncId} {id : Nat} {ops : Array Oper} {Q : Ex → T → AS → Prop} {t : T} {σ : AS} (plan : List (Nat × Option (List Nat))) (hok : planOk ops [] none plan = true) (h : canonW C (C.rows f id) ops (Drop (Q .normal)) plan t σ) : wpA C f (.region id ops true) Q t σ := by
  simp only [wpA, if_true]
  rintro l ⟨tt, rfl⟩
  exact canon_all hok h tt

end Go.W
