/- A program that carries the code out on abstract values: definitions. Conditions: none. -/
import Derived.Test.YtjnomlphjnnbnaaGreatDoorX1
set_option linter.unusedVariables false
set_option linter.unusedSimpArgs false
namespace Go.W
noncomputable section

mutual
def sameV : AV → AV → Bool
  | .undef, .undef => true
  | .bool a, .bool b => a == b
  | .int k a, .int j b => k == j && a == b
  | .str a, .str b => a == b
  | .list a t, .list b u => sameLL a b && t == u
  | .sl a b c, .sl d e f => a == d && b == e && c == f
  | .nilp, .nilp => true
  | .ptr a b c, .ptr d e f => a == d && b == e && c == f
  | .pp a i o, .pp b j p => sameLL a b && i == j && o == p
  | .map a, .map b => a == b
  | .nilm, .nilm => true
  | .fn f a b, .fn g c d => f == g && sameL a c && sameL b d
  | .nilf, .nilf => true
  | .nili, .nili => true
  | .agg a, .agg b => sameL a b
  | .tup a, .tup b => sameL a b
  | _, _ => false
def sameL : List AV → List AV → Bool
  | [], [] => true
  | a :: as, b :: bs => sameV a b && sameL as bs
  | _, _ => false
def sameLL : List (List AV) → List (List AV) → Bool
  | [], [] => true
  | a :: as, b :: bs => sameL a b && sameLL as bs
  | _, _ => false
end

mutual
theorem sameV_eq : ∀ (a b : AV), sameV a b = true → a = b
  | a, b, h => by
    cases a <;> cases b <;> simp only [sameV, Bool.and_eq_true, beq_iff_eq, Bool.false_eq_true] at h
    case list.list a t b u => rw [sameLL_eq a b h.1, h.2]
    case pp.pp a i o b j p => rw [sameLL_eq a b h.1.1, h.1.2, h.2]
    case fn.fn f a b g c d => rw [h.1.1, sameL_eq a c h.1.2, sameL_eq b d h.2]
    case agg.agg a b => rw [sameL_eq a b h]
    case tup.tup a b => rw [sameL_eq a b h]
    all_goals first | rfl | (subst h; rfl) | (obtain ⟨rfl, rfl⟩ := h; rfl) | (obtain ⟨⟨rfl, rfl⟩, rfl⟩ := h; rfl)
theorem sameL_eq : ∀ (a b : List AV), sameL a b = true → a = b
  | [], [], _ => rfl
  | a :: as, b :: bs, h => by
    simp only [sameL, Bool.and_eq_true] at h
    rw [sameV_eq a b h.1, sameL_eq as bs h.2]
  | [], _ :: _, h => by simp [sameL] at h
  | _ :: _, [], h => by simp [sameL] at h
theorem sameLL_eq : ∀ (a b : List (List AV)), sameLL a b = true → a = b
  | [], [], _ => rfl
  | a :: as, b :: bs, h => by
    simp only [sameLL, Bool.and_eq_true] at h
    rw [sameL_eq a b h.1, sameLL_eq as bs h.2]
  | [], _ :: _, h => by simp [sameLL] at h
  | _ :: _, [], h => by simp [sameLL] at h
end

/-- May an operation change the store? -/
def activeOp (C : Ctx) : Op → Bool
  | .move _ | .assign _ | .pick .. | .build .. | .buildSlice .. | .load .. | .nilCheck _ | .binOp .. | .unOp .. | .convert .. | .makeFunc .. | .fieldAddr .. | .field ..
  | .indexAddr .. | .index .. | .lookup .. | .extract .. => false
  | .slice ty _ _ _ _ => match kindOf C ty with | some (.array _ _) => true | _ => false
  | .call { callee := .builtin b, .. } => match b with | .len | .cap | .min | .max => false | _ => true
  | _ => true

/-- One order for a region whose order is left open. -/
def mkPlan (C : Ctx) (ops : Array Oper) : List (Nat × Option (List Nat)) := go ops.size []
where
  go : Nat → List (Nat × Bool) → List (Nat × Option (List Nat))
  | 0, _ => []
  | n + 1, pre =>
    let ready := (List.range ops.size).filter fun i => !(pre.any fun p => p.1 == i) && match ops[i]? with | some o => (depsOf o).all (fun j => pre.any fun p => p.1 == j) | none => false
    match ready.find? (fun i => match ops[i]? with
      | some o => !activeOp C o.op && (match o.dst with | some d => !(slots ops o).contains d && pre.all (fun p => match ops[p.1]? with | some op => !(slots ops op).contains d | none => true) | none => true)
      | none => false) with
    | some i => (i, none) :: go n ((i, false) :: pre)
    | none => match ready with
      | [] => []
      | i :: _ => (i, some ((pre.filter fun j => !(j.2 || (match ops[j.1]? with | some oj => blind oj.op | none => true) || (ancL ops 5 i).contains j.1)).map (·.1))) :: go n ((i, true) :: pre)

def xWanted (ops : Array Oper) (t : TT) (o : Oper) : Option Bool := match o.guard with
  | none => some true
  | some (j, want) => match (ops[j]?).bind (·.dst) with
    | some d => (match t.get d with | .bool b => some (b == want) | .tup _ => some false | _ => none)
    | none => some false

abbrev CallF := FuncId → List AV → St → Option (AV × St)

def xOp (C : Ctx) (call : CallF) (mq : Bool) (ops : Array Oper) (o : Oper) (t : TT) (s : St) : Option (TT × St) := match xWanted ops t o with
  | none => none
  | some false => (match t.put o.dst (.tup []) with | some t' => some (t', s) | none => none)
  | some true => match fOp C mq t s o.op with
    | none => none
    | some (.val v s') => (match t.put o.dst v with | some t' => some (t', s') | none => none)
    | some (.enter f args) => match call f args s with
      | some (v, s') => (match t.put o.dst v with | some t' => some (t', s') | none => none)
      | none => none

def xOps (C : Ctx) (call : CallF) (mq : Bool) (ops : Array Oper) : List Oper → TT → St → Option (TT × St)
  | [], t, s => some (t, s)
  | o :: r, t, s => match xOp C call mq ops o t s with
    | some (t', s') => xOps C call mq ops r t' s'
    | none => none

def xAgain (C : Ctx) (mq : Bool) (ops : Array Oper) (t : TT) (s : St) (j : Nat) : Bool := match ops[j]? with
  | none => false
  | some o => !activeOp C o.op && (match o.dst with
    | some d => Nat.blt d t.n && (match xWanted ops t o with
      | none => false
      | some false => sameV (t.get d) (.tup [])
      | some true => (match fOp C mq t s o.op with | some (.val v _) => sameV (t.get d) v | _ => false))
    | none => (match xWanted ops t o with
      | none => false
      | some false => true
      | some true => (match fOp C mq t s o.op with | some (.val v _) => true | _ => false)))

def xPlan (C : Ctx) (call : CallF) (mq : Bool) (ops : Array Oper) : List (Nat × Option (List Nat)) → TT → St → Option (TT × St)
  | [], t, s => some (t, s)
  | (i, k) :: r, t, s => match ops[i]? with
    | none => none
    | some o => match k with
      | none => (match activeOp C o.op with
        | true => none
        | false => match xOp C call mq ops o t s with
          | some (t', s') => xPlan C call mq ops r t' s'
          | none => none)
      | some pl => match xOp C call mq ops o t s with
        | some (t', s') => (match pl.all (xAgain C mq ops t' s') with
          | true => xPlan C call mq ops r t' s'
          | false => none)
        | none => none

def fResA (C : Ctx) (s : St) (t : TT) : List ResultVar → Option (List AV)
  | [] => some []
  | .tmp k :: r => (fResA C s t r).map fun l => t.get k :: l
  | .cell k ty :: r => (gLoad C (fRow s) ty (t.get k)).bind fun v => (fResA C s t r).map fun l => v :: l
def fRetA (C : Ctx) (s : St) (t : TT) (rs : List ResultVar) : Option AV := match fResA C s t rs with
  | none => none
  | some [v] => some v
  | some l => some (.tup l)

def trOf : List AV → Nat → Tr AV → Tr AV
  | [], _, t => t
  | v :: r, k, t => trOf r (k + 1) (t.set .undef k v)
def TT.enter (fn : Func) (args : List AV) : TT := ⟨args.length + (fn.ntmps - args.length), trOf args 0 .e⟩

/-- A call, by what carries its body out. -/
def callW (C : Ctx) (ih : FuncId → Option Code → Code → TT → St → Option (Ex × TT × St)) : CallF := fun g args s => match C.memo g args with
  | some v => some (v, s)
  | none => match C.F g with
    | none => none
    | some fn => match fn.body with
      | none => none
      | some c => match ih g none c (TT.enter fn args) s with
        | some (.normal, t', s') | some (.ret, t', s') => (match fRetA C s' t' fn.results.toList with | some v => some (v, s') | none => none)
        | _ => none

/-- The code, carried out; 'sc': the scope in which it stands, if that is to be gone through to its end. -/
def exec (C : Ctx) : Nat → FuncId → Option Code → Code → TT → St → Option (Ex × TT × St)
  | 0, _, _, _, _, _ => none
  | n + 1, f, some b, c, t, s => match exec C n f none c t s with
    | some (.goto l, t', s') => (match findLabel b l with
      | some rest => exec C n f (some b) rest t' s'
      | none => none)
    | r => r
  | n + 1, f, none, c, t, s => match c with
    | .skip | .label _ => some (.normal, t, s)
    | .exit id => some (.exit id, t, s)
    | .goto l => some (.goto l, t, s)
    | .ret => some (.ret, t, s)
    | .seq a b => (match exec C n f none a t s with
      | some (.normal, t', s') => exec C n f none b t' s'
      | r => r)
    | .cond c a b => (match fev C t c with
      | some (.bool true) => exec C n f none a t s
      | some (.bool false) => exec C n f none b t s
      | _ => none)
    | .block id b => (match exec C n f none b t s with
      | some (.exit id', t', s') => (match Nat.beq id' id with | true => some (.normal, t', s') | false => some (.exit id', t', s'))
      | r => r)
    | .loop b => (match exec C n f none b t s with
      | some (.normal, t', s') => exec C n f none (.loop b) t' s'
      | r => r)
    | .region id ops draw =>
      match draw with
      | false => (match xOps C (callW C (exec C n)) (C.rows f id) ops ops.toList t s with | some (t', s') => some (.normal, t', s') | none => none)
      | true => (match planOk ops [] none (mkPlan C ops) with
        | false => none
        | true => match xPlan C (callW C (exec C n)) (C.rows f id) ops (mkPlan C ops) t s with | some (t', s') => some (.normal, t', s') | none => none)
    | .scope b => exec C n f (some b) b t s
    | _ => none

def callF (C : Ctx) (n : Nat) (g : FuncId) (args : List AV) (s : St) : Option (AV × St) := callW C (exec C n) g args s

end
end Go.W
