/- The same program, so written that it is less work for the kernel. Conditions: none. -/
import Derived.Test.YtldkompnddnojaaGreatDoorX3
set_option linter.unusedVariables false
set_option linter.unusedSimpArgs false
namespace Go.W
noncomputable section

abbrev KO := Ctx → Bool → TT → St → Option FNext
def kNone : KO := fun _ _ _ _ => none
def kEv : Operand → Ctx → TT → Option AV :=
  Operand.rec (motive := fun _ => Ctx → TT → Option AV) (fun k _ t => some (t.get k)) (fun v _ _ => absC v) (fun g C _ => (C.G g).map fun cs => .pp [cs] 0 0) (fun f _ _ => some (.fn f [] []))
theorem kEv_eq (C : Ctx) (t : TT) (x : Operand) : kEv x C t = fev C t x := by cases x <;> rfl
def kEvs (C : Ctx) (t : TT) (l : List Operand) : Option (List AV) :=
  List.rec (motive := fun _ => Option (List AV)) (some []) (fun x _ ih => match kEv x C t, ih with | some a, some as => some (a :: as) | _, _ => none) l
theorem kEvs_eq (C : Ctx) (t : TT) : ∀ l : List Operand, kEvs C t l = fevs C t l
  | [] => rfl
  | x :: r => by
    show (match kEv x C t, kEvs C t r with | some a, some as => some (a :: as) | _, _ => none) = _
    rw [kEv_eq, kEvs_eq C t r]; rfl
def kE (x : Operand) (C : Ctx) (t : TT) (k : AV → Option FNext) : Option FNext :=
  Option.rec (motive := fun _ => Option FNext) none k (kEv x C t)
theorem kE_eq (x : Operand) (C : Ctx) (t : TT) (k : AV → Option FNext) : kE x C t k = (fev C t x).bind k := by
  unfold kE; rw [kEv_eq]; cases fev C t x <;> rfl
def kVal (s : St) (o : Option AV) : Option FNext := Option.rec (motive := fun _ => Option FNext) none (fun v => some (.val v s)) o
theorem kVal_eq (s : St) (o : Option AV) : kVal s o = fval s o := by cases o <;> rfl

def kCallee : Callee → Array Operand → Array TypeId → KO :=
  Callee.rec (motive := fun _ => Array Operand → Array TypeId → KO)
    (fun f args _ C _ t s => kE f C t fun f => (kEvs C t args.toList).bind fun as => match f with
        | .fn g first cap => if (C.F g).isSome then some (.enter g (first ++ as ++ cap)) else (C.ext g).bind fun h => fval s (h (first ++ as ++ cap))
        | _ => none)
    (fun _ _ _ _ => kNone)
    (fun b args argTypes C mq t s => (kEvs C t args.toList).bind fun as => fval2 (fBuiltin C mq b argTypes.toList s as))

/-- One operation: by the recursor, the state behind the choice. -/
def kOp : Op → KO :=
  Op.rec (motive := fun _ => KO)
    (move := fun x C _ t s => kVal s (kEv x C t))
    (assign := fun x C _ t s => kVal s (kEv x C t))
    (pick := fun c a b C _ t s => kE c C t fun c => match c with | .bool c => kVal s (kEv (if c then a else b) C t) | _ => none)
    (alloc := fun e C _ _ s => (C.D e).bind fun d => some (.val (.ptr s.n 0 0) (s.push (.row [d.zero]))))
    (box := fun _ x C _ t s => kE x C t fun v => (cellsOf v).bind fun l => some (.val (.ptr s.n 0 0) (s.push (.row [l]))))
    (build := fun ty parts C _ t s => kVal s ((fevParts C t parts.toList).bind fun ps => aBuild C ty ps))
    (buildSlice := fun ty len parts C _ t s => kVal s ((fevParts C t parts.toList).bind fun ps => aBuildSlice C ty len ps))
    (insert := fun ty m k x C _ t s => kE m C t fun m => kE k C t fun k => kE x C t fun x => match fMapUpdate C ty s m k x with | some s' => some (.val .undef s') | none => none)
    (load := fun ty a C _ t s => kE a C t fun a => kVal s (gLoad C (fRow s) ty a))
    (store := fun ty a x C _ t s => kE a C t fun a => kE x C t fun v => match fStore C s ty a v with | some s' => some (.val .undef s') | none => none)
    (ready := fun _ => kNone)
    (waits := fun _ => kNone)
    (nilCheck := fun x C _ t s => kE x C t fun v => match v with | .ptr _ _ _ | .pp _ _ _ | .fn _ _ _ => some (.val v s) | _ => none)
    (binOp := fun op ty x y _ C _ t s => kE x C t fun x => kE y C t fun y => kVal s (aBinT C op ty x y))
    (unOp := fun op _ x C _ t s => kE x C t fun x => kVal s (aUn op x))
    (convert := fun a d x C _ t s => kE x C t fun x => kVal s (gConvert C a d (fRow s) x))
    (sliceToArrayPointer := fun _ _ => kNone)
    (makeInterface := fun _ _ => kNone)
    (makeFunc := fun fn first cap => match fn with
      | .func f => fun C _ t s => (kEvs C t first.toList).bind fun a => (kEvs C t cap.toList).bind fun b => some (.val (.fn f a b) s)
      | _ => kNone)
    (makeMap := fun _ r => match r with
      | none => fun _ _ _ s => some (.val (.map s.n) (s.push (.map [])))
      | _ => kNone)
    (makeChan := fun _ _ => kNone)
    (makeSlice := fun ty l c C _ t s => kE l C t fun l => kE c C t fun c => fval2 (fMakeSlice C ty s l c))
    (slice := fun ty x lo hi mx => match mx with
      | none => fun C _ t s => kE x C t fun x =>
        (match lo with | none => some none | some o => (kEv o C t).map some).bind fun lo =>
        (match hi with | none => some none | some o => (kEv o C t).map some).bind fun hi => fval2 (fSliceAny C ty s x lo hi)
      | _ => kNone)
    (fieldAddr := fun ty x f C _ t s => kE x C t fun x => kVal s (aFieldAddr C ty x f))
    (field := fun ty x f C _ t s => kE x C t fun x => kVal s (aField C ty x f))
    (indexAddr := fun ty x i C _ t s => kE x C t fun x => kE i C t fun i => kVal s (gIndexAddr C ty (fRow s) x i))
    (index := fun ty x i C _ t s => kE x C t fun x => kE i C t fun i => kVal s (aIndex C ty x i))
    (lookup := fun ty m k ok C _ t s => kE m C t fun m => kE k C t fun k => kVal s (fLookup C ty s m k ok))
    (mapUpdate := fun ty m k x C _ t s => kE m C t fun m => kE k C t fun k => kE x C t fun x => match fMapUpdate C ty s m k x with | some s' => some (.val .undef s') | none => none)
    (mapEntry := fun _ _ _ => kNone)
    (entryStore := fun _ _ _ _ => kNone)
    (range := fun _ _ => kNone)
    (next := fun _ _ => kNone)
    (entry := fun _ => kNone)
    (typeAssert := fun _ _ _ _ => kNone)
    (extract := fun x i C _ t s => kE x C t fun x => kVal s (aExtract x i))
    (call := fun c => kCallee c.callee c.args c.argTypes)
    (go := fun _ => kNone)
    (defer := fun _ => kNone)
    (panic := fun _ => kNone)
    (send := fun _ _ => kNone)
    (recv := fun _ _ _ => kNone)
    (select := fun _ _ => kNone)

theorem kOp_eq (C : Ctx) (mq : Bool) (t : TT) (s : St) (o : Op) : kOp o C mq t s = fOp C mq t s o := by
  cases o with
  | makeFunc fn first cap =>
    cases fn with
    | func f => show ((kEvs C t first.toList).bind fun a => (kEvs C t cap.toList).bind fun b => some (FNext.val (.fn f a b) s)) = _; simp only [kEvs_eq]; rfl
    | _ => rfl
  | makeMap t r => cases r <;> rfl
  | slice ty x lo hi mx =>
    cases mx with
    | none =>
      show (kE x C t fun x =>
        (match lo with | none => some none | some o => (kEv o C t).map some).bind fun lo =>
        (match hi with | none => some none | some o => (kEv o C t).map some).bind fun hi => fval2 (fSliceAny C ty s x lo hi)) = _
      simp only [kE_eq, kEv_eq]; rfl
    | some m => rfl
  | call c =>
    obtain ⟨callee, args, argTypes⟩ := c
    cases callee with
    | value f =>
      show (kE f C t fun f => (kEvs C t args.toList).bind fun as => match f with
        | .fn g first cap => if (C.F g).isSome then some (.enter g (first ++ as ++ cap)) else (C.ext g).bind fun h => fval s (h (first ++ as ++ cap))
        | _ => none) = _
      simp only [kE_eq, kEvs_eq]; rfl
    | builtin b => show ((kEvs C t args.toList).bind fun as => fval2 (fBuiltin C mq b argTypes.toList s as)) = _; simp only [kEvs_eq]; rfl
    | invoke r m => rfl
  | move x => show kVal s (kEv x C t) = _; simp only [kVal_eq, kEv_eq]; rfl
  | assign x => show kVal s (kEv x C t) = _; simp only [kVal_eq, kEv_eq]; rfl
  | pick c a b => show (kE c C t fun c => match c with | .bool c => kVal s (kEv (if c then a else b) C t) | _ => none) = _; simp only [kE_eq, kVal_eq, kEv_eq]; rfl
  | alloc e => rfl
  | box e x => show (kE x C t fun v => (cellsOf v).bind fun l => some (.val (.ptr s.n 0 0) (s.push (.row [l])))) = _; simp only [kE_eq]; rfl
  | build ty parts => show kVal s _ = _; rw [kVal_eq]; rfl
  | buildSlice ty len parts => show kVal s _ = _; rw [kVal_eq]; rfl
  | insert ty m k x => show (kE m C t fun m => kE k C t fun k => kE x C t fun x => match fMapUpdate C ty s m k x with | some s' => some (.val .undef s') | none => none) = _; simp only [kE_eq]; rfl
  | mapUpdate ty m k x => show (kE m C t fun m => kE k C t fun k => kE x C t fun x => match fMapUpdate C ty s m k x with | some s' => some (.val .undef s') | none => none) = _; simp only [kE_eq]; rfl
  | load ty a => show (kE a C t fun a => kVal s (gLoad C (fRow s) ty a)) = _; simp only [kE_eq, kVal_eq]; rfl
  | store ty a x => show (kE a C t fun a => kE x C t fun v => match fStore C s ty a v with | some s' => some (.val .undef s') | none => none) = _; simp only [kE_eq]; rfl
  | nilCheck x => show (kE x C t fun v => match v with | .ptr _ _ _ | .pp _ _ _ | .fn _ _ _ => some (.val v s) | _ => none) = _; simp only [kE_eq]; rfl
  | binOp op ty x y yt => show (kE x C t fun x => kE y C t fun y => kVal s (aBinT C op ty x y)) = _; simp only [kE_eq, kVal_eq]; rfl
  | unOp op ty x => show (kE x C t fun x => kVal s (aUn op x)) = _; simp only [kE_eq, kVal_eq]; rfl
  | convert a d x => show (kE x C t fun x => kVal s (gConvert C a d (fRow s) x)) = _; simp only [kE_eq, kVal_eq]; rfl
  | makeSlice ty l c => show (kE l C t fun l => kE c C t fun c => fval2 (fMakeSlice C ty s l c)) = _; simp only [kE_eq]; rfl
  | fieldAddr ty x f => show (kE x C t fun x => kVal s (aFieldAddr C ty x f)) = _; simp only [kE_eq, kVal_eq]; rfl
  | field ty x f => show (kE x C t fun x => kVal s (aField C ty x f)) = _; simp only [kE_eq, kVal_eq]; rfl
  | indexAddr ty x i => show (kE x C t fun x => kE i C t fun i => kVal s (gIndexAddr C ty (fRow s) x i)) = _; simp only [kE_eq, kVal_eq]; rfl
  | index ty x i => show (kE x C t fun x => kE i C t fun i => kVal s (aIndex C ty x i)) = _; simp only [kE_eq, kVal_eq]; rfl
  | lookup ty m k ok => show (kE m C t fun m => kE k C t fun k => kVal s (fLookup C ty s m k ok)) = _; simp only [kE_eq, kVal_eq]; rfl
  | extract x i => show (kE x C t fun x => kVal s (aExtract x i)) = _; simp only [kE_eq, kVal_eq]; rfl
  | _ => rfl

def kPut (t : TT) (s : St) (d : Option Nat) (v : AV) : Option (TT × St) := match d with
  | none => some (t, s)
  | some k => match t with
    | ⟨n, tr⟩ => match Nat.ble (Nat.succ k) n with | true => some (⟨n, tr.set k v⟩, s) | false => none
theorem kPut_eq (t : TT) (s : St) (d : Option Nat) (v : AV) : kPut t s d v = (match t.put d v with | some t' => some (t', s) | none => none) := by
  cases d with
  | none => rfl
  | some k =>
    obtain ⟨n, tr⟩ := t
    show (match Nat.ble (Nat.succ k) n with | true => some (⟨n, tr.set k v⟩, s) | false => none) = (match (match Nat.ble (Nat.succ k) n with | true => some (⟨n, tr.set k v⟩ : TT) | false => none) with | some t' => some (t', s) | none => none)
    cases Nat.ble (Nat.succ k) n <;> rfl

def kDo (r : Option FNext) (d : Option Nat) (call : CallF) (t : TT) (s : St) : Option (TT × St) := match r with
  | none => none
  | some x => match x with
    | .val v s' => kPut t s' d v
    | .enter f args => match call f args s with
      | some (v, s') => kPut t s' d v
      | none => none

def kGuard (ops : Array Oper) (t : TT) (j : Nat) (want : Bool) : Option Bool := match (ops[j]?).bind (·.dst) with
  | some d => (match t.get d with | .bool b => some (b == want) | .tup _ => some false | _ => none)
  | none => some false

def kOne (C : Ctx) (call : CallF) (mq : Bool) (ops : Array Oper) : Oper → TT → St → Option (TT × St)
  | { dst := d, op := op, guard := g, .. } => match g with
    | none => fun t s => kDo (kOp op C mq t s) d call t s
    | some (j, want) => fun t s => match kGuard ops t j want with
      | none => none
      | some false => kPut t s d (.tup [])
      | some true => kDo (kOp op C mq t s) d call t s

theorem kDo_eq (C : Ctx) (call : CallF) (mq : Bool) (op : Op) (d : Option Nat) (t : TT) (s : St) : kDo (kOp op C mq t s) d call t s = (match fOp C mq t s op with
    | none => none
    | some (.val v s') => (match t.put d v with | some t' => some (t', s') | none => none)
    | some (.enter f args) => match call f args s with
      | some (v, s') => (match t.put d v with | some t' => some (t', s') | none => none)
      | none => none) := by
  rw [kOp_eq]
  unfold kDo
  cases fOp C mq t s op with
  | none => rfl
  | some x =>
    cases x with
    | val v s' => exact kPut_eq t s' d v
    | enter f args =>
      simp only
      cases call f args s with
      | none => rfl
      | some p => obtain ⟨v, s'⟩ := p; exact kPut_eq t s' d v

theorem kOne_eq (C : Ctx) (call : CallF) (mq : Bool) (ops : Array Oper) (o : Oper) (t : TT) (s : St) : kOne C call mq ops o t s = xOp C call mq ops o t s := by
  obtain ⟨d, op, ty, pos, after, g⟩ := o
  cases g with
  | none => exact kDo_eq C call mq op d t s
  | some p =>
    obtain ⟨j, want⟩ := p
    simp only [kOne, xOp]
    rw [show xWanted ops t { dst := d, op := op, type := ty, pos := pos, after := after, guard := some (j, want) } = kGuard ops t j want from rfl]
    generalize kGuard ops t j want = q
    cases q with
    | none => rfl
    | some b =>
      cases b
      · exact kPut_eq t s d _
      · exact kDo_eq C call mq op d t s

def kOps (C : Ctx) (call : CallF) (mq : Bool) (ops : Array Oper) (l : List Oper) : TT → St → Option (TT × St) :=
  List.rec (motive := fun _ => TT → St → Option (TT × St)) (fun t s => some (t, s))
    (fun o _ ih t s => match kOne C call mq ops o t s with | some (t', s') => ih t' s' | none => none) l
theorem kOps_eq (C : Ctx) (call : CallF) (mq : Bool) (ops : Array Oper) : ∀ (l : List Oper) (t : TT) (s : St), kOps C call mq ops l t s = xOps C call mq ops l t s
  | [], t, s => rfl
  | o :: r, t, s => by
    show (match kOne C call mq ops o t s with | some (t', s') => kOps C call mq ops r t' s' | none => none) = _
    simp only [xOps, kOne_eq]
    cases xOp C call mq ops o t s with
    | none => rfl
    | some p => exact kOps_eq C call mq ops r p.1 p.2

abbrev Res := Option (Ex × TT × St)
abbrev Ih := FuncId → Option Code → Code → TT → St → Res

def kCall (C : Ctx) (ih : Ih) (g : FuncId) (args : List AV) (s : St) : Option (AV × St) := match C.F g with
  | none => none
  | some fn => match fn.body with
    | none => none
    | some c => match ih g none c (TT.enter fn args) s with
      | some (.normal, t', s') | some (.ret, t', s') => (match fRetA C s' t' fn.results.toList with | some v => some (v, s') | none => none)
      | _ => none

def kOut (e : Ex) : Option (TT × St) → Res
  | some (t', s') => some (e, t', s')
  | none => none

/-- A piece of code; 'ih': what is carried out with less fuel. -/
def kCode : Code → Ctx → Ih → FuncId → TT → St → Res :=
  Code.rec (motive := fun _ => Ctx → Ih → FuncId → TT → St → Res)
    (skip := fun _ _ _ t s => some (.normal, t, s))
    (region := fun id ops draw => Bool.rec (motive := fun _ => Ctx → Ih → FuncId → TT → St → Res)
      (fun C ih f t s => kOut .normal (kOps C (kCall C ih) (C.rows f id) ops ops.toList t s))
      (fun C ih f t s => match planOk ops [] none (mkPlan C ops) with
      | false => none
      | true => kOut .normal (xPlan C (kCall C ih) (C.rows f id) ops (mkPlan C ops) t s)) draw)
    (seq := fun a b _ _ _ ih f t s => match ih f none a t s with
    | some (.normal, t', s') => ih f none b t' s'
    | r => r)
    (cond := fun c a b _ _ C ih f t s => match kEv c C t with
    | some (.bool true) => ih f none a t s
    | some (.bool false) => ih f none b t s
    | _ => none)
    (block := fun id b _ _ ih f t s => match ih f none b t s with
    | some (.exit id', t', s') => (match Nat.beq id' id with | true => some (.normal, t', s') | false => some (.exit id', t', s'))
    | r => r)
    (loop := fun b _ _ ih f t s => match ih f none b t s with
    | some (.normal, t', s') => ih f none (.loop b) t' s'
    | r => r)
    (rangeFunc := fun _ _ _ _ _ _ _ _ _ _ _ => none)
    (exit := fun id _ _ _ t s => some (.exit id, t, s))
    (scope := fun b _ _ ih f t s => ih f (some b) b t s)
    (label := fun _ _ _ _ t s => some (.normal, t, s))
    (goto := fun l _ _ _ t s => some (.goto l, t, s))
    (ret := fun _ _ _ t s => some (.ret, t, s))
    (refuse := fun _ _ _ _ _ _ => none)

def kIn (b c : Code) (ih : Ih) (f : FuncId) (t : TT) (s : St) : Res := match ih f none c t s with
  | some (.goto l, t', s') => (match findLabel b l with
    | some rest => ih f (some b) rest t' s'
    | none => none)
  | r => r

def kExec (C : Ctx) (n : Nat) : Ih :=
  Nat.rec (motive := fun _ => Ih) (fun _ _ _ _ _ => none) (fun _ ih f sc c => match sc with | none => fun t s => kCode c C ih f t s | some b => fun t s => kIn b c ih f t s) n

theorem kExec_eq (C : Ctx) : ∀ (n : Nat) (f : FuncId) (sc : Option Code) (c : Code) (t : TT) (s : St), kExec C n f sc c t s = exec C n f sc c t s
  | 0, f, sc, c, t, s => rfl
  | n + 1, f, sc, c, t, s => by
    have ih : kExec C n = exec C n := by funext f sc c t s; exact kExec_eq C n f sc c t s
    cases sc with
    | some b =>
      show kIn b c (kExec C n) f t s = _
      rw [ih]; simp only [kIn, exec]; rfl
    | none =>
      show kCode c C (kExec C n) f t s = _
      rw [ih]
      cases c with
      | region id ops draw =>
        cases draw with
        | false =>
          show kOut .normal (kOps C (kCall C (exec C n)) (C.rows f id) ops ops.toList t s) = _
          simp only [exec, kOps_eq]
          show kOut .normal (xOps C (kCall C (exec C n)) (C.rows f id) ops ops.toList t s) = (match xOps C (kCall C (exec C n)) (C.rows f id) ops ops.toList t s with | some (t', s') => some (Ex.normal, t', s') | none => none)
          cases xOps C (kCall C (exec C n)) (C.rows f id) ops ops.toList t s <;> rfl
        | true =>
          show (match planOk ops [] none (mkPlan C ops) with
            | false => none
            | true => kOut .normal (xPlan C (kCall C (exec C n)) (C.rows f id) ops (mkPlan C ops) t s)) = _
          simp only [exec]
          cases planOk ops [] none (mkPlan C ops) with
          | false => rfl
          | true =>
            show kOut .normal (xPlan C (kCall C (exec C n)) (C.rows f id) ops (mkPlan C ops) t s) = (match xPlan C (kCall C (exec C n)) (C.rows f id) ops (mkPlan C ops) t s with | some (t', s') => some (Ex.normal, t', s') | none => none)
            cases xPlan C (kCall C (exec C n)) (C.rows f id) ops (mkPlan C ops) t s <;> rfl
      | cond o a b =>
        show (match kEv o C t with
          | some (.bool true) => exec C n f none a t s
          | some (.bool false) => exec C n f none b t s
          | _ => none) = _
        rw [kEv_eq]; rfl
      | _ => rfl

/-- A call that is carried out so. -/
theorem kCall_ok {C : Ctx} (hC : COk C) {n : Nat} {g : FuncId} {args : List AV} {s s' : St} {v : AV} (h : kCall C (kExec C n) g args s = some (v, s')) : SCall C g args s.as fun a b => a = v ∧ b = s'.as := by
  have e : kExec C n = exec C n := by funext f sc c t s; exact kExec_eq C n f sc c t s
  rw [e] at h
  exact callF_ok hC (n := n) h

end
end Go.W
