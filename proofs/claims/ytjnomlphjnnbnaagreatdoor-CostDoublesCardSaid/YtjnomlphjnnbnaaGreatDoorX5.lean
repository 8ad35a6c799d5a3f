/- The same program, so written that it is less work for the kernel: by the recursors, each piece handing on to what is behind it. Conditions: none. -/
import Derived.Test.YtjnomlphjnnbnaaGreatDoorX3
import Derived.KernelRfl
set_option linter.unusedVariables false
set_option linter.unusedSimpArgs false
namespace Go.W
noncomputable section

abbrev Slots := Tr AV
/-- What a call comes to, or none. -/
abbrev R := Option (AV × St)

def ob {α : Type} (o : Option α) (k : α → R) : R := Option.rec (motive := fun _ => R) none k o
theorem ob_eq {α : Type} (o : Option α) (k : α → R) : ob o k = (match o with | some v => k v | none => none) := by cases o <;> rfl
theorem ob_some {α : Type} (v : α) (k : α → R) : ob (some v) k = k v := rfl
theorem ob_none {α : Type} (k : α → R) : ob none k = none := rfl
abbrev kOr (o : Option AV) (k : AV → R) : R := ob o k
abbrev kOrS (o : Option St) (k : St → R) : R := ob o k
def kOr2 (o : Option (AV × St)) (k : AV → St → R) : R := ob o (fun p => Prod.rec (motive := fun _ => R) k p)
theorem kOr2_eq (o : Option (AV × St)) (k : AV → St → R) : kOr2 o k = (match o with | some (v, s) => k v s | none => none) := by rcases o with _ | ⟨v, s⟩ <;> rfl

def kEv : Operand → Ctx → Slots → (AV → R) → R :=
  Operand.rec (motive := fun _ => Ctx → Slots → (AV → R) → R) (fun i _ t k => k (t.get .undef i)) (fun v _ _ k => kOr (absC v) k) (fun g C _ k => kOr ((C.G g).map fun cs => .pp [cs] 0 0) k) (fun f _ _ k => k (.fn f [] []))
theorem kEv_eq (C : Ctx) (n : Nat) (t : Slots) (x : Operand) (k : AV → R) : kEv x C t k = ob (fev C ⟨n, t⟩ x) k := by
  cases x <;> rfl

def kEvs (C : Ctx) (t : Slots) (l : List Operand) : (List AV → R) → R :=
  List.rec (motive := fun _ => (List AV → R) → R) (fun k => k []) (fun x _ ih k => kEv x C t fun a => ih fun as => k (a :: as)) l
theorem kEvs_eq (C : Ctx) (n : Nat) (t : Slots) : ∀ (l : List Operand) (k : List AV → R), kEvs C t l k = ob (fevs C ⟨n, t⟩ l) k
  | [], k => rfl
  | x :: r, k => by
    show (kEv x C t fun a => kEvs C t r fun as => k (a :: as)) = _
    rw [kEv_eq C n]
    simp only [fevs]
    cases fev C ⟨n, t⟩ x with
    | none => rfl
    | some a =>
      rw [ob_some, kEvs_eq C n t r]
      cases fevs C ⟨n, t⟩ r <;> rfl

/-! Operators, reads and places, each choice ahead of what it chooses for. -/
def kBin : BinOp → AV → AV → Option AV :=
  BinOp.rec (motive := fun _ => AV → AV → Option AV)
    (add := fun x y => match x, y with
      | .int k a, .int k' b => if k = k' then some (.int k (k.wrap (a + b))) else none
      | .str a, .str b => if a.length + b.length < 2 ^ 62 then some (.str (a ++ b)) else none
      | _, _ => none)
    (sub := fun x y => match x, y with
      | .int k a, .int k' b => if k = k' then some (.int k (k.wrap (a - b))) else none
      | _, _ => none)
    (mul := fun x y => aBin .mul x y) (quo := fun x y => aBin .quo x y) (rem := fun x y => aBin .rem x y) (and := fun x y => aBin .and x y) (or := fun x y => aBin .or x y) (xor := fun x y => aBin .xor x y)
    (shl := fun x y => aBin .shl x y) (shr := fun x y => aBin .shr x y) (andNot := fun x y => aBin .andNot x y)
    (eql := fun x y => match x, y with
      | .int k a, .int k' b => if k = k' then some (.bool (a == b)) else none
      | .str a, .str b => some (.bool (a == b))
      | .bool a, .bool b => some (.bool (a == b))
      | _, _ => none)
    (neq := fun x y => match x, y with
      | .int k a, .int k' b => if k = k' then some (.bool (a != b)) else none
      | .str a, .str b => some (.bool (!(a == b)))
      | .bool a, .bool b => some (.bool (!(a == b)))
      | _, _ => none)
    (lss := fun x y => match x, y with
      | .int k a, .int k' b => if k = k' then some (.bool (decide (a < b))) else none
      | .str a, .str b => some (.bool (bytesLess a b))
      | _, _ => none)
    (leq := fun x y => match x, y with
      | .int k a, .int k' b => if k = k' then some (.bool (decide (a ≤ b))) else none
      | .str a, .str b => some (.bool (bytesLess a b || a == b))
      | _, _ => none)
    (gtr := fun x y => match x, y with
      | .int k a, .int k' b => if k = k' then some (.bool (decide (a > b))) else none
      | .str a, .str b => some (.bool (!(bytesLess a b || a == b)))
      | _, _ => none)
    (geq := fun x y => match x, y with
      | .int k a, .int k' b => if k = k' then some (.bool (decide (a ≥ b))) else none
      | .str a, .str b => some (.bool (!bytesLess a b))
      | _, _ => none)
theorem kBin_eq (op : BinOp) (x y : AV) : kBin op x y = aBin op x y := by
  cases op <;> first | rfl | (cases x <;> first | rfl | (cases y <;> rfl))

def kBinT (C : Ctx) (op : BinOp) (t : TypeId) (x y : AV) : Option AV := match C.D t with
  | none => none
  | some d => TK.rec (motive := fun _ => Option AV)
    (scal := fun _ => match x with | .int _ _ => kBin op x y | _ => none)
    (bool := match x with | .bool _ => kBin op x y | _ => none)
    (ptr := fun _ => aBinT C op t x y) (slice := fun _ => aBinT C op t x y) (array := fun _ _ => aBinT C op t x y) (map := fun _ _ => aBinT C op t x y) (struct := fun _ => aBinT C op t x y)
    (str := match x with | .str _ => kBin op x y | _ => none)
    (func := aBinT C op t x y) d.kd
theorem kBinT_eq (C : Ctx) (op : BinOp) (t : TypeId) (x y : AV) : kBinT C op t x y = aBinT C op t x y := by
  unfold kBinT
  cases h : C.D t with
  | none => simp only [aBinT, h]; rfl
  | some d =>
    obtain ⟨kd, size, bytes, zero⟩ := d
    cases kd with
    | scal k => show (match x with | .int _ _ => kBin op x y | _ => none) = _; simp only [aBinT, h, Option.bind_some, kBin_eq]; cases x <;> rfl
    | bool => show (match x with | .bool _ => kBin op x y | _ => none) = _; simp only [aBinT, h, Option.bind_some, kBin_eq]; cases x <;> rfl
    | str => show (match x with | .str _ => kBin op x y | _ => none) = _; simp only [aBinT, h, Option.bind_some, kBin_eq]; cases x <;> rfl
    | _ => rfl

def kMk (d : TD) (l : List AV) : Option AV :=
  TK.rec (motive := fun _ => List AV → Option AV) (scal := fun _ l => match l with | [c] => some c | _ => none) (bool := fun l => match l with | [c] => some c | _ => none) (ptr := fun _ l => match l with | [c] => some c | _ => none)
    (slice := fun _ l => match l with | [c] => some c | _ => none) (array := fun _ _ l => some (.agg l)) (map := fun _ _ l => match l with | [c] => some c | _ => none) (struct := fun _ l => some (.agg l))
    (str := fun l => match l with | [c] => some c | _ => none) (func := fun l => match l with | [c] => some c | _ => none) d.kd l
theorem kMk_eq (d : TD) (l : List AV) : kMk d l = mkVal d l := by
  obtain ⟨kd, size, bytes, zero⟩ := d
  cases kd <;> first | rfl | (rcases l with _ | ⟨a, _ | ⟨b, l⟩⟩ <;> rfl)
def kCut (cs : List AV) (off n : Nat) : Option (List AV) := match Nat.ble (Nat.add off n) cs.length with | true => some ((cs.drop off).take n) | false => none
theorem kCut_eq (cs : List AV) (off n : Nat) : kCut cs off n = cut cs off n := by
  unfold kCut cut
  have h0 : Nat.add off n = off + n := rfl
  rw [h0]
  by_cases h : off + n ≤ cs.length
  · rw [if_pos h, Nat.ble_eq_true_of_le h]
  · rw [if_neg h]
    cases hb : Nat.ble (off + n) cs.length with
    | true => exact absurd (Nat.le_of_ble_eq_true hb) h
    | false => rfl
def kNth (l : List AV) (i : Nat) : Option AV := List.rec (motive := fun _ => Nat → Option AV) (fun _ => none) (fun a _ ih i => Nat.rec (motive := fun _ => Option AV) (some a) (fun j _ => ih j) i) l i
theorem kNth_eq : ∀ (l : List AV) (i : Nat), kNth l i = l[i]?
  | [], i => rfl
  | a :: r, 0 => rfl
  | a :: r, i + 1 => by show kNth r i = _; rw [kNth_eq r i]; simp
def kSet1 (l : List AV) (i : Nat) (x : AV) : Option (List AV) :=
  List.rec (motive := fun _ => Nat → Option (List AV)) (fun _ => none) (fun a r ih i => Nat.rec (motive := fun _ => Option (List AV)) (some (x :: r)) (fun j _ => Option.rec (motive := fun _ => Option (List AV)) none (fun l => some (a :: l)) (ih j)) i) l i
theorem kSet1_eq : ∀ (l : List AV) (i : Nat) (x : AV), kSet1 l i x = putCells l i [x]
  | [], i, x => by simp [putCells]; rfl
  | a :: r, 0, x => by simp [putCells]; rfl
  | a :: r, i + 1, x => by
    show Option.rec (motive := fun _ => Option (List AV)) none (fun l => some (a :: l)) (kSet1 r i x) = _
    rw [kSet1_eq r i x]
    simp only [putCells, List.length_cons, List.length_nil]
    by_cases h : i + (0 + 1) ≤ r.length
    · rw [if_pos h, if_pos (by omega)]
      simp [Nat.add_right_comm]
    · rw [if_neg h, if_neg (by omega)]

def kRead (d : TD) (cs : List AV) (off : Nat) : Option AV := match Nat.beq d.size 1 with
  | true => (match kNth cs off with | some c => kMk d [c] | none => none)
  | false => (match kCut cs off d.size with | some l => kMk d l | none => none)
theorem kRead_eq (d : TD) (cs : List AV) (off : Nat) : kRead d cs off = (cut cs off d.size).bind fun l => mkVal d l := by
  unfold kRead
  cases h : Nat.beq d.size 1 with
  | true =>
    have h1 : d.size = 1 := Nat.eq_of_beq_eq_true h
    rw [h1, kNth_eq]
    unfold cut
    by_cases hl : off < cs.length
    · rw [if_pos (by omega), List.getElem?_eq_getElem hl]
      have : (cs.drop off).take 1 = [cs[off]] := by
        rw [List.drop_eq_getElem_cons hl]; rfl
      simp only [Option.bind_some, this, kMk_eq]
    · rw [if_neg (by omega), List.getElem?_eq_none (by omega)]; rfl
  | false =>
    simp only [kCut_eq]
    cases cut cs off d.size with
    | none => rfl
    | some l => exact kMk_eq d l
def kLoad (C : Ctx) (ro : RO) (t : TypeId) (a : AV) : Option AV := match C.D t with
  | none => none
  | some d => match gTarget ro a with
    | none => none
    | some p => kRead d p.1 p.2
theorem kLoad_eq (C : Ctx) (ro : RO) (t : TypeId) (a : AV) : kLoad C ro t a = gLoad C ro t a := by
  unfold kLoad gLoad
  cases C.D t with
  | none => rfl
  | some d =>
    simp only [Option.bind_some]
    cases gTarget ro a with
    | none => rfl
    | some p => simp only [Option.bind_some, kRead_eq]
def kStore (C : Ctx) (s : St) (t : TypeId) (a v : AV) : Option St := match a with
  | .ptr id i off => (match s.get id with
    | some (.row es) => (match C.D t with
      | none => none
      | some d => match es[i]? with
        | none => none
        | some e => match Nat.beq d.size 1 && v.isCell with
          | true => (match kSet1 e off v with | some e' => some (s.set id (.row (es.set i e'))) | none => none)
          | false => (cellsOf v).bind fun l => if l.length = d.size then (putCells e off l).map fun e' => s.set id (.row (es.set i e')) else none)
    | _ => none)
  | _ => none
theorem cellsOf_cell {v : AV} (h : v.isCell = true) : cellsOf v = some [v] := by
  cases v <;> simp [AV.isCell] at h <;> simp [cellsOf, AV.isCell]
theorem kStore_eq (C : Ctx) (s : St) (t : TypeId) (a v : AV) : kStore C s t a v = fStore C s t a v := by
  cases a with
  | ptr id i off =>
    simp only [kStore, fStore]
    cases s.get id with
    | none => rfl
    | some o =>
      cases o with
      | row es =>
        simp only
        cases C.D t with
        | none => rfl
        | some d =>
          simp only [Option.bind_some]
          cases es[i]? with
          | none => rfl
          | some e =>
            simp only [Option.bind_some]
            cases h : (Nat.beq d.size 1 && v.isCell) with
            | false => rfl
            | true =>
              rw [Bool.and_eq_true] at h
              have h1 : d.size = 1 := Nat.eq_of_beq_eq_true h.1
              simp only [cellsOf_cell h.2, Option.bind_some, h1, List.length_cons, List.length_nil, if_true, kSet1_eq]
              cases putCells e off [v] <;> rfl
      | _ => rfl
  | _ => rfl

def kOpt (C : Ctx) (t : Slots) (o : Option Operand) (k : Option AV → R) : R := Option.rec (motive := fun _ => R) (k none) (fun x => kEv x C t fun a => k (some a)) o

abbrev KO := Ctx → Bool → Nat → Slots → St → (AV → St → R) → (FuncId → List AV → R) → R
def kNone : KO := fun _ _ _ _ _ _ _ => none

def kCallee : Callee → Array Operand → Array TypeId → KO :=
  Callee.rec (motive := fun _ => Array Operand → Array TypeId → KO)
    (fun f args _ C _ _ t s kv ke => kEv f C t fun f => kEvs C t args.toList fun as => match f with
        | .fn g first cap => if (C.F g).isSome then ke g (first ++ as ++ cap) else (C.ext g).bind fun h => kOr (h (first ++ as ++ cap)) fun v => kv v s
        | _ => none)
    (fun _ _ _ _ => kNone)
    (fun b args argTypes C mq _ t s kv _ => kEvs C t args.toList fun as => kOr2 (fBuiltin C mq b argTypes.toList s as) kv)

/-- One operation: by the recursor, the state behind the choice. 'kv': a value; 'ke': a call. -/
def kOp : Op → KO :=
  Op.rec (motive := fun _ => KO)
    (move := fun x C _ _ t s kv _ => kEv x C t fun v => kv v s)
    (assign := fun x C _ _ t s kv _ => kEv x C t fun v => kv v s)
    (pick := fun c a b C _ _ t s kv _ => kEv c C t fun c => match c with | .bool c => kEv (if c then a else b) C t fun v => kv v s | _ => none)
    (alloc := fun e C _ _ _ s kv _ => (C.D e).bind fun d => kv (.ptr s.n 0 0) (s.push (.row [d.zero])))
    (box := fun _ x C _ _ t s kv _ => kEv x C t fun v => (cellsOf v).bind fun l => kv (.ptr s.n 0 0) (s.push (.row [l])))
    (build := fun ty parts C _ n t s kv _ => kOr ((fevParts C ⟨n, t⟩ parts.toList).bind fun ps => aBuild C ty ps) fun v => kv v s)
    (buildSlice := fun ty len parts C _ n t s kv _ => kOr ((fevParts C ⟨n, t⟩ parts.toList).bind fun ps => aBuildSlice C ty len ps) fun v => kv v s)
    (insert := fun ty m k x C _ _ t s kv _ => kEv m C t fun m => kEv k C t fun k => kEv x C t fun x => kOrS (fMapUpdate C ty s m k x) fun s' => kv .undef s')
    (load := fun ty a C _ _ t s kv _ => kEv a C t fun a => kOr (kLoad C (fRow s) ty a) fun v => kv v s)
    (store := fun ty a x C _ _ t s kv _ => kEv a C t fun a => kEv x C t fun v => kOrS (kStore C s ty a v) fun s' => kv .undef s')
    (ready := fun _ => kNone)
    (waits := fun _ => kNone)
    (nilCheck := fun x C _ _ t s kv _ => kEv x C t fun v => match v with | .ptr _ _ _ | .pp _ _ _ | .fn _ _ _ => kv v s | _ => none)
    (binOp := fun op ty x y _ C _ _ t s kv _ => kEv x C t fun x => kEv y C t fun y => kOr (kBinT C op ty x y) fun v => kv v s)
    (unOp := fun op _ x C _ _ t s kv _ => kEv x C t fun x => kOr (aUn op x) fun v => kv v s)
    (convert := fun a d x C _ _ t s kv _ => kEv x C t fun x => kOr (gConvert C a d (fRow s) x) fun v => kv v s)
    (sliceToArrayPointer := fun _ _ => kNone)
    (makeInterface := fun _ _ => kNone)
    (makeFunc := fun fn first cap => match fn with
      | .func f => fun C _ _ t s kv _ => kEvs C t first.toList fun a => kEvs C t cap.toList fun b => kv (.fn f a b) s
      | _ => kNone)
    (makeMap := fun _ r => match r with
      | none => fun _ _ _ _ s kv _ => kv (.map s.n) (s.push (.map []))
      | _ => kNone)
    (makeChan := fun _ _ => kNone)
    (makeSlice := fun ty l c C _ _ t s kv _ => kEv l C t fun l => kEv c C t fun c => kOr2 (fMakeSlice C ty s l c) kv)
    (slice := fun ty x lo hi mx => match mx with
      | none => fun C _ _ t s kv _ => kEv x C t fun x => kOpt C t lo fun lo => kOpt C t hi fun hi => kOr2 (fSliceAny C ty s x lo hi) kv
      | _ => kNone)
    (fieldAddr := fun ty x f C _ _ t s kv _ => kEv x C t fun x => kOr (aFieldAddr C ty x f) fun v => kv v s)
    (field := fun ty x f C _ _ t s kv _ => kEv x C t fun x => kOr (aField C ty x f) fun v => kv v s)
    (indexAddr := fun ty x i C _ _ t s kv _ => kEv x C t fun x => kEv i C t fun i => kOr (gIndexAddr C ty (fRow s) x i) fun v => kv v s)
    (index := fun ty x i C _ _ t s kv _ => kEv x C t fun x => kEv i C t fun i => kOr (aIndex C ty x i) fun v => kv v s)
    (lookup := fun ty m k ok C _ _ t s kv _ => kEv m C t fun m => kEv k C t fun k => kOr (fLookup C ty s m k ok) fun v => kv v s)
    (mapUpdate := fun ty m k x C _ _ t s kv _ => kEv m C t fun m => kEv k C t fun k => kEv x C t fun x => kOrS (fMapUpdate C ty s m k x) fun s' => kv .undef s')
    (mapEntry := fun _ _ _ => kNone)
    (entryStore := fun _ _ _ _ => kNone)
    (range := fun _ _ => kNone)
    (next := fun _ _ => kNone)
    (entry := fun _ => kNone)
    (typeAssert := fun _ _ _ _ => kNone)
    (extract := fun x i C _ _ t s kv _ => kEv x C t fun x => kOr (aExtract x i) fun v => kv v s)
    (call := fun c => kCallee c.callee c.args c.argTypes)
    (go := fun _ => kNone)
    (defer := fun _ => kNone)
    (panic := fun _ => kNone)
    (send := fun _ _ => kNone)
    (recv := fun _ _ _ => kNone)
    (select := fun _ _ => kNone)

/-- What is behind, of what an operation comes to. -/
def After' (kv : AV → St → R) (ke : FuncId → List AV → R) : Option FNext → R
  | none => none
  | some (.val v s) => kv v s
  | some (.enter f args) => ke f args

theorem after_fval (kv : AV → St → R) (ke : FuncId → List AV → R) (s : St) (o : Option AV) : After' kv ke (fval s o) = ob o fun v => kv v s := by cases o <;> rfl
theorem after_fval2 (kv : AV → St → R) (ke : FuncId → List AV → R) (o : Option (AV × St)) : After' kv ke (fval2 o) = kOr2 o kv := by rcases o with _ | ⟨v, s⟩ <;> rfl
theorem after_bind {α : Type} (kv : AV → St → R) (ke : FuncId → List AV → R) (o : Option α) (f : α → Option FNext) : After' kv ke (o.bind f) = ob o fun v => After' kv ke (f v) := by cases o <;> rfl
theorem after_val (kv : AV → St → R) (ke : FuncId → List AV → R) (v : AV) (s : St) : After' kv ke (some (.val v s)) = kv v s := rfl
theorem after_S (kv : AV → St → R) (ke : FuncId → List AV → R) (o : Option St) : After' kv ke (match o with | some s' => some (.val .undef s') | none => none) = ob o fun s' => kv .undef s' := by cases o <;> rfl
theorem kOpt_eq (C : Ctx) (n : Nat) (t : Slots) (o : Option Operand) (k : Option AV → R) : kOpt C t o k = ob (match o with | none => some none | some o => (fev C ⟨n, t⟩ o).map some) k := by
  cases o with
  | none => rfl
  | some x =>
    show kEv x C t (fun a => k (some a)) = _
    rw [kEv_eq C n]
    simp only
    cases fev C ⟨n, t⟩ x <;> rfl

theorem kOp_eq (C : Ctx) (mq : Bool) (n : Nat) (t : Slots) (s : St) (kv : AV → St → R) (ke : FuncId → List AV → R) (o : Op) : kOp o C mq n t s kv ke = After' kv ke (fOp C mq ⟨n, t⟩ s o) := by
  cases o with
  | makeFunc fn first cap =>
    cases fn with
    | func f => show (kEvs C t first.toList fun a => kEvs C t cap.toList fun b => kv (.fn f a b) s) = _; simp only [fOp, after_bind, kEvs_eq C n, after_val]
    | _ => rfl
  | makeMap ty r => cases r <;> rfl
  | slice ty x lo hi mx =>
    cases mx with
    | none =>
      show (kEv x C t fun x => kOpt C t lo fun lo => kOpt C t hi fun hi => kOr2 (fSliceAny C ty s x lo hi) kv) = _
      simp only [fOp, after_bind, kEv_eq C n, kOpt_eq C n, after_fval2]
      cases lo <;> cases hi <;> rfl
    | some m => rfl
  | call c =>
    obtain ⟨callee, args, argTypes⟩ := c
    cases callee with
    | value f =>
      show (kEv f C t fun f => kEvs C t args.toList fun as => match f with
        | .fn g first cap => if (C.F g).isSome then ke g (first ++ as ++ cap) else (C.ext g).bind fun h => kOr (h (first ++ as ++ cap)) fun v => kv v s
        | _ => none) = _
      simp only [fOp, after_bind, kEv_eq C n, kEvs_eq C n]
      congr 1; funext f; congr 1; funext as
      cases f with
      | fn g first cap =>
        simp only
        by_cases hc : (C.F g).isSome = true
        · rw [if_pos hc, if_pos hc]; rfl
        · rw [if_neg hc, if_neg hc, after_bind]
          cases C.ext g with
          | none => rfl
          | some h => simp only [Option.bind_some, after_fval, ob_some]
      | _ => rfl
    | builtin b =>
      show (kEvs C t args.toList fun as => kOr2 (fBuiltin C mq b argTypes.toList s as) kv) = _
      simp only [fOp, after_bind, kEvs_eq C n, after_fval2]
    | invoke r m => rfl
  | move x => show (kEv x C t fun v => kv v s) = _; simp only [fOp, after_fval, kEv_eq C n]
  | assign x => show (kEv x C t fun v => kv v s) = _; simp only [fOp, after_fval, kEv_eq C n]
  | pick c a b =>
    show (kEv c C t fun c => match c with | .bool c => kEv (if c then a else b) C t fun v => kv v s | _ => none) = _
    simp only [fOp, after_bind, kEv_eq C n]
    congr 1; funext c
    cases c <;> simp only [after_fval] <;> rfl
  | alloc e => show ((C.D e).bind fun d => kv (.ptr s.n 0 0) (s.push (.row [d.zero]))) = _; simp only [fOp, after_bind]; cases C.D e <;> rfl
  | box e x =>
    show (kEv x C t fun v => (cellsOf v).bind fun l => kv (.ptr s.n 0 0) (s.push (.row [l]))) = _
    simp only [fOp, after_bind, kEv_eq C n]
    congr 1; funext v; cases cellsOf v <;> rfl
  | build ty parts => show kOr _ _ = _; simp only [fOp, after_fval]
  | buildSlice ty len parts => show kOr _ _ = _; simp only [fOp, after_fval]
  | insert ty m k x => show (kEv m C t fun m => kEv k C t fun k => kEv x C t fun x => kOrS (fMapUpdate C ty s m k x) fun s' => kv .undef s') = _; simp only [fOp, after_bind, kEv_eq C n]; congr 1; funext m; congr 1; funext k; congr 1; funext x; cases fMapUpdate C ty s m k x <;> rfl
  | mapUpdate ty m k x => show (kEv m C t fun m => kEv k C t fun k => kEv x C t fun x => kOrS (fMapUpdate C ty s m k x) fun s' => kv .undef s') = _; simp only [fOp, after_bind, kEv_eq C n]; congr 1; funext m; congr 1; funext k; congr 1; funext x; cases fMapUpdate C ty s m k x <;> rfl
  | load ty a => show (kEv a C t fun a => kOr (kLoad C (fRow s) ty a) fun v => kv v s) = _; simp only [fOp, after_bind, kEv_eq C n, after_fval, kLoad_eq]
  | store ty a x => show (kEv a C t fun a => kEv x C t fun v => kOrS (kStore C s ty a v) fun s' => kv .undef s') = _; simp only [fOp, after_bind, kEv_eq C n]; congr 1; funext a; congr 1; funext v; rw [kStore_eq]; cases fStore C s ty a v <;> rfl
  | nilCheck x =>
    show (kEv x C t fun v => match v with | .ptr _ _ _ | .pp _ _ _ | .fn _ _ _ => kv v s | _ => none) = _
    simp only [fOp, after_bind, kEv_eq C n]
    congr 1; funext v; cases v <;> rfl
  | binOp op ty x y yt => show (kEv x C t fun x => kEv y C t fun y => kOr (kBinT C op ty x y) fun v => kv v s) = _; simp only [fOp, after_bind, kEv_eq C n, after_fval, kBinT_eq]
  | unOp op ty x => show (kEv x C t fun x => kOr (aUn op x) fun v => kv v s) = _; simp only [fOp, after_bind, kEv_eq C n, after_fval]
  | convert a d x => show (kEv x C t fun x => kOr (gConvert C a d (fRow s) x) fun v => kv v s) = _; simp only [fOp, after_bind, kEv_eq C n, after_fval]
  | makeSlice ty l c => show (kEv l C t fun l => kEv c C t fun c => kOr2 (fMakeSlice C ty s l c) kv) = _; simp only [fOp, after_bind, kEv_eq C n, after_fval2]
  | fieldAddr ty x f => show (kEv x C t fun x => kOr (aFieldAddr C ty x f) fun v => kv v s) = _; simp only [fOp, after_bind, kEv_eq C n, after_fval]
  | field ty x f => show (kEv x C t fun x => kOr (aField C ty x f) fun v => kv v s) = _; simp only [fOp, after_bind, kEv_eq C n, after_fval]
  | indexAddr ty x i => show (kEv x C t fun x => kEv i C t fun i => kOr (gIndexAddr C ty (fRow s) x i) fun v => kv v s) = _; simp only [fOp, after_bind, kEv_eq C n, after_fval]
  | index ty x i => show (kEv x C t fun x => kEv i C t fun i => kOr (aIndex C ty x i) fun v => kv v s) = _; simp only [fOp, after_bind, kEv_eq C n, after_fval]
  | lookup ty m k ok => show (kEv m C t fun m => kEv k C t fun k => kOr (fLookup C ty s m k ok) fun v => kv v s) = _; simp only [fOp, after_bind, kEv_eq C n, after_fval]
  | extract x i => show (kEv x C t fun x => kOr (aExtract x i) fun v => kv v s) = _; simp only [fOp, after_bind, kEv_eq C n, after_fval]
  | _ => rfl

def kPut (n : Nat) (t : Slots) (d : Option Nat) (v : AV) (k : Slots → R) : R :=
  Option.rec (motive := fun _ => R) (k t) (fun i => Bool.rec (motive := fun _ => R) none (k (t.set .undef i v)) (Nat.ble (Nat.succ i) n)) d
theorem kPut_eq (n : Nat) (t : Slots) (d : Option Nat) (v : AV) (k : Slots → R) : kPut n t d v k = (match (TT.mk n t).put d v with | some t' => k t'.tr | none => none) := by
  cases d with
  | none => rfl
  | some i =>
    show Bool.rec (motive := fun _ => R) none (k (t.set .undef i v)) (Nat.ble (Nat.succ i) n) = (match (match Nat.ble (Nat.succ i) n with | true => some (⟨n, t.set .undef i v⟩ : TT) | false => none) with | some t' => k t'.tr | none => none)
    cases Nat.ble (Nat.succ i) n <;> rfl
theorem put_n {t t' : TT} {d : Option Nat} {v : AV} (h : t.put d v = some t') : t'.n = t.n := by
  have := TT.put_ok h
  exact (put_get this).1

abbrev KCall := FuncId → List AV → St → (AV → St → R) → R

def kGo (op : Op) (d : Option Nat) (C : Ctx) (call : KCall) (mq : Bool) (n : Nat) (t : Slots) (s : St) (k : Slots → St → R) : R :=
  kOp op C mq n t s (fun v s' => kPut n t d v fun t' => k t' s') (fun f args => call f args s fun v s' => kPut n t d v fun t' => k t' s')

def kGuard (ops : Array Oper) (t : Slots) (j : Nat) (want : Bool) : Option Bool := match (ops[j]?).bind (·.dst) with
  | some d => (match t.get .undef d with | .bool b => some (b == want) | .tup _ => some false | _ => none)
  | none => some false

def kOne (C : Ctx) (call : KCall) (mq : Bool) (ops : Array Oper) (n : Nat) : Oper → Slots → St → (Slots → St → R) → R :=
  Oper.rec (motive := fun _ => Slots → St → (Slots → St → R) → R) (fun d op _ _ _ g => match g with
    | none => fun t s k => kGo op d C call mq n t s k
    | some (j, want) => fun t s k => match kGuard ops t j want with
      | none => none
      | some false => kPut n t d (.tup []) fun t' => k t' s
      | some true => kGo op d C call mq n t s k)

/-- A call in the other form tells the same. -/
def CallEq (call : KCall) (call0 : CallF) : Prop := ∀ g args s k, call g args s k = (match call0 g args s with | some (v, s') => k v s' | none => none)

theorem kGo_eq {call : KCall} {call0 : CallF} (hc : CallEq call call0) (C : Ctx) (mq : Bool) (n : Nat) (op : Op) (d : Option Nat) (t : Slots) (s : St) (k : Slots → St → R) :
    kGo op d C call mq n t s k = (match (match fOp C mq ⟨n, t⟩ s op with
    | none => none
    | some (.val v s') => (match (TT.mk n t).put d v with | some t' => some (t', s') | none => none)
    | some (.enter f args) => match call0 f args s with
      | some (v, s') => (match (TT.mk n t).put d v with | some t' => some (t', s') | none => none)
      | none => none : Option (TT × St)) with | some (t', s') => k t'.tr s' | none => none) := by
  unfold kGo
  rw [kOp_eq]
  cases fOp C mq ⟨n, t⟩ s op with
  | none => rfl
  | some x =>
    cases x with
    | val v s' =>
      simp only [After', kPut_eq]
      cases (TT.mk n t).put d v <;> rfl
    | enter f args =>
      simp only [After', hc f args s]
      rcases call0 f args s with _ | ⟨v, s'⟩
      · rfl
      · simp only [kPut_eq]
        cases (TT.mk n t).put d v <;> rfl

theorem kOne_eq {call : KCall} {call0 : CallF} (hc : CallEq call call0) (C : Ctx) (mq : Bool) (ops : Array Oper) (n : Nat) (o : Oper) (t : Slots) (s : St) (k : Slots → St → R) :
    kOne C call mq ops n o t s k = (match xOp C call0 mq ops o ⟨n, t⟩ s with | some (t', s') => k t'.tr s' | none => none) := by
  obtain ⟨d, op, ty, pos, after, g⟩ := o
  cases g with
  | none => exact kGo_eq hc C mq n op d t s k
  | some p =>
    obtain ⟨j, want⟩ := p
    show (match kGuard ops t j want with
      | none => none
      | some false => kPut n t d (.tup []) fun t' => k t' s
      | some true => kGo op d C call mq n t s k) = _
    simp only [xOp]
    rw [show xWanted ops ⟨n, t⟩ { dst := d, op := op, type := ty, pos := pos, after := after, guard := some (j, want) } = kGuard ops t j want from rfl]
    generalize kGuard ops t j want = q
    cases q with
    | none => rfl
    | some b =>
      cases b
      · simp only [kPut_eq]
        cases (TT.mk n t).put d (.tup []) <;> rfl
      · exact kGo_eq hc C mq n op d t s k

theorem xOp_n {C : Ctx} {call : CallF} {mq : Bool} {ops : Array Oper} {o : Oper} {t t' : TT} {s s' : St} (h : xOp C call mq ops o t s = some (t', s')) : t'.n = t.n := by
  unfold xOp at h
  split at h
  · simp at h
  · split at h
    · rename_i u hu; simp only [Option.some.injEq, Prod.mk.injEq] at h; obtain ⟨rfl, rfl⟩ := h; exact put_n hu
    · simp at h
  · split at h
    · simp at h
    · split at h
      · rename_i u hu; simp only [Option.some.injEq, Prod.mk.injEq] at h; obtain ⟨rfl, rfl⟩ := h; exact put_n hu
      · simp at h
    · split at h
      · split at h
        · rename_i u hu; simp only [Option.some.injEq, Prod.mk.injEq] at h; obtain ⟨rfl, rfl⟩ := h; exact put_n hu
        · simp at h
      · simp at h

def kOps (C : Ctx) (call : KCall) (mq : Bool) (ops : Array Oper) (n : Nat) (l : List Oper) : Slots → St → (Slots → St → R) → R :=
  List.rec (motive := fun _ => Slots → St → (Slots → St → R) → R) (fun t s k => k t s)
    (fun o _ ih t s k => kOne C call mq ops n o t s fun t' s' => ih t' s' k) l
theorem kOps_eq {call : KCall} {call0 : CallF} (hc : CallEq call call0) (C : Ctx) (mq : Bool) (ops : Array Oper) (n : Nat) : ∀ (l : List Oper) (t : Slots) (s : St) (k : Slots → St → R),
    kOps C call mq ops n l t s k = (match xOps C call0 mq ops l ⟨n, t⟩ s with | some (t', s') => k t'.tr s' | none => none)
  | [], t, s, k => rfl
  | o :: r, t, s, k => by
    show (kOne C call mq ops n o t s fun t' s' => kOps C call mq ops n r t' s' k) = _
    rw [kOne_eq hc]
    simp only [xOps]
    cases h : xOp C call0 mq ops o ⟨n, t⟩ s with
    | none => rfl
    | some p =>
      obtain ⟨⟨n', t'⟩, s'⟩ := p
      obtain rfl : n' = n := xOp_n h
      exact kOps_eq hc C mq ops n' r t' s' k

def kPlan (C : Ctx) (call : KCall) (mq : Bool) (ops : Array Oper) (n : Nat) : List (Nat × Option (List Nat)) → Slots → St → (Slots → St → R) → R
  | [] => fun t s k => k t s
  | (i, q) :: r => match ops[i]? with
    | none => fun _ _ _ => none
    | some o => match q with
      | none => (match activeOp C o.op with
        | true => fun _ _ _ => none
        | false => fun t s k => kOne C call mq ops n o t s fun t' s' => kPlan C call mq ops n r t' s' k)
      | some [] => fun t s k => kOne C call mq ops n o t s fun t' s' => kPlan C call mq ops n r t' s' k
      | some pl => fun t s k => kOne C call mq ops n o t s fun t' s' => match pl.all (xAgain C mq ops ⟨n, t'⟩ s') with
        | true => kPlan C call mq ops n r t' s' k
        | false => none
theorem kPlan_eq {call : KCall} {call0 : CallF} (hc : CallEq call call0) (C : Ctx) (mq : Bool) (ops : Array Oper) (n : Nat) : ∀ (l : List (Nat × Option (List Nat))) (t : Slots) (s : St) (k : Slots → St → R),
    kPlan C call mq ops n l t s k = (match xPlan C call0 mq ops l ⟨n, t⟩ s with | some (t', s') => k t'.tr s' | none => none)
  | [], t, s, k => rfl
  | (i, q) :: r, t, s, k => by
    have ih := kPlan_eq hc C mq ops n r
    simp only [kPlan, xPlan]
    cases ops[i]? with
    | none => rfl
    | some o =>
      simp only
      have one : ∀ (K : Slots → St → R) (K0 : TT → St → Option (TT × St)), (∀ t' s', K t' s' = (match K0 ⟨n, t'⟩ s' with | some (t', s') => k t'.tr s' | none => none)) →
          kOne C call mq ops n o t s K = (match (match xOp C call0 mq ops o ⟨n, t⟩ s with | some (t', s') => K0 t' s' | none => none) with | some (t', s') => k t'.tr s' | none => none) := by
        intro K K0 hK
        rw [kOne_eq hc]
        cases h : xOp C call0 mq ops o ⟨n, t⟩ s with
        | none => rfl
        | some p =>
          obtain ⟨⟨n', t'⟩, s'⟩ := p
          obtain rfl : n' = n := xOp_n h
          exact hK t' s'
      cases q with
      | none =>
        simp only
        cases activeOp C o.op with
        | true => rfl
        | false => exact one _ (fun t' s' => xPlan C call0 mq ops r t' s') fun t' s' => ih t' s' k
      | some pl =>
        cases pl with
        | nil => exact one _ (fun t' s' => match ([] : List Nat).all (xAgain C mq ops t' s') with | true => xPlan C call0 mq ops r t' s' | false => none) fun t' s' => ih t' s' k
        | cons j pl =>
          refine one _ (fun t' s' => match (j :: pl).all (xAgain C mq ops t' s') with | true => xPlan C call0 mq ops r t' s' | false => none) fun t' s' => ?_

          cases (j :: pl).all (xAgain C mq ops ⟨n, t'⟩ s') with
          | true => exact ih t' s' k
          | false => rfl

abbrev KX := Ex → Slots → St → R
abbrev Ih := FuncId → Nat → Option Code → Code → Slots → St → KX → R

def kRes (C : Ctx) (s : St) (n : Nat) (t : Slots) (rs : List ResultVar) (k : AV → St → R) : R := kOr (fRetA C s ⟨n, t⟩ rs) fun v => k v s
def kEnd (fn : Func) (C : Ctx) (n : Nat) (k : AV → St → R) : KX :=
  fun e t s => Ex.rec (motive := fun _ => R) (kRes C s n t fn.results.toList k) (fun _ => none) (fun _ => none) (kRes C s n t fn.results.toList k) e

def kCall (C : Ctx) (ih : Ih) (g : FuncId) (args : List AV) (s : St) (k : AV → St → R) : R := match C.memo g args with
  | some v => k v s
  | none => match C.F g with
    | none => none
    | some fn => match fn.body with
      | none => none
      | some c => ih g (args.length + (fn.ntmps - args.length)) none c (trOf args 0 .e) s (kEnd fn C (args.length + (fn.ntmps - args.length)) k)

/-- A piece of code; 'ih': what is carried out with less fuel. -/
def kCode : Code → Ctx → Ih → FuncId → Nat → Slots → St → KX → R :=
  Code.rec (motive := fun _ => Ctx → Ih → FuncId → Nat → Slots → St → KX → R)
    (skip := fun _ _ _ _ t s k => k .normal t s)
    (region := fun id ops draw => Bool.rec (motive := fun _ => Ctx → Ih → FuncId → Nat → Slots → St → KX → R)
      (fun C ih f n t s k => kOps C (kCall C ih) (C.rows f id) ops n ops.toList t s (k .normal))
      (fun C ih f n t s k => match planOk ops [] none (mkPlan C ops) with
      | false => none
      | true => kPlan C (kCall C ih) (C.rows f id) ops n (mkPlan C ops) t s (k .normal)) draw)
    (seq := fun a b _ _ _ ih f n t s k => ih f n none a t s fun e t' s' => Ex.rec (motive := fun _ => R) (ih f n none b t' s' k) (fun i => k (.exit i) t' s') (fun l => k (.goto l) t' s') (k .ret t' s') e)
    (cond := fun c a b _ _ C ih f n t s k => kEv c C t fun v => match v with
      | .bool b' => Bool.rec (motive := fun _ => R) (ih f n none b t s k) (ih f n none a t s k) b'
      | _ => none)
    (block := fun id b _ _ ih f n t s k => ih f n none b t s fun e t' s' => Ex.rec (motive := fun _ => R) (k .normal t' s') (fun i => Bool.rec (motive := fun _ => R) (k (.exit i) t' s') (k .normal t' s') (Nat.beq i id)) (fun l => k (.goto l) t' s') (k .ret t' s') e)
    (loop := fun b _ _ ih f n t s k => ih f n none b t s fun e t' s' => Ex.rec (motive := fun _ => R) (ih f n none (.loop b) t' s' k) (fun i => k (.exit i) t' s') (fun l => k (.goto l) t' s') (k .ret t' s') e)
    (rangeFunc := fun _ _ _ _ _ _ _ _ _ _ _ _ _ => none)
    (exit := fun id _ _ _ _ t s k => k (.exit id) t s)
    (scope := fun b _ _ ih f n t s k => ih f n (some b) b t s k)
    (label := fun _ _ _ _ _ t s k => k .normal t s)
    (goto := fun l _ _ _ _ t s k => k (.goto l) t s)
    (ret := fun _ _ _ _ t s k => k .ret t s)
    (refuse := fun _ _ _ _ _ _ _ _ => none)

def kIn (b c : Code) (ih : Ih) (f : FuncId) (n : Nat) (t : Slots) (s : St) (k : KX) : R :=
  ih f n none c t s fun e t' s' => match e with
    | .goto l => (match findLabel b l with
      | some rest => ih f n (some b) rest t' s' k
      | none => none)
    | e => k e t' s'

def kExec (C : Ctx) (n : Nat) : Ih :=
  Nat.rec (motive := fun _ => Ih) (fun _ _ _ _ _ _ _ => none) (fun _ ih f m sc c => match sc with | none => fun t s k => kCode c C ih f m t s k | some b => fun t s k => kIn b c ih f m t s k) n

theorem xOps_n {C : Ctx} {call : CallF} {mq : Bool} {ops : Array Oper} : ∀ {l : List Oper} {t t' : TT} {s s' : St}, xOps C call mq ops l t s = some (t', s') → t'.n = t.n
  | [], t, t', s, s', h => by simp only [xOps, Option.some.injEq, Prod.mk.injEq] at h; rw [h.1]
  | o :: r, t, t', s, s', h => by
    simp only [xOps] at h
    split at h
    · rename_i t1 s1 h1; rw [xOps_n h, xOp_n h1]
    · simp at h
theorem xPlan_n {C : Ctx} {call : CallF} {mq : Bool} {ops : Array Oper} : ∀ {l : List (Nat × Option (List Nat))} {t t' : TT} {s s' : St}, xPlan C call mq ops l t s = some (t', s') → t'.n = t.n
  | [], t, t', s, s', h => by simp only [xPlan, Option.some.injEq, Prod.mk.injEq] at h; rw [h.1]
  | (i, q) :: r, t, t', s, s', h => by
    simp only [xPlan] at h
    split at h
    · simp at h
    · split at h
      · split at h
        · simp at h
        · split at h
          · rename_i t1 s1 h1; rw [xPlan_n h, xOp_n h1]
          · simp at h
      · split at h
        · rename_i t1 s1 h1
          split at h
          · rw [xPlan_n h, xOp_n h1]
          · simp at h
        · simp at h

theorem exec_n (C : Ctx) : ∀ (m : Nat) (f : FuncId) (sc : Option Code) (c : Code) (t : TT) (s : St) (e : Ex) (t' : TT) (s' : St), exec C m f sc c t s = some (e, t', s') → t'.n = t.n
  | 0, f, sc, c, t, s, e, t', s', h => by simp [exec] at h
  | m + 1, f, some b, c, t, s, e, t', s', h => by
    have ih := exec_n C m
    simp only [exec] at h
    split at h
    · rename_i l t1 s1 h1
      split at h
      · rw [ih _ _ _ _ _ _ _ _ h, ih _ _ _ _ _ _ _ _ h1]
      · simp at h
    · exact ih _ _ _ _ _ _ _ _ h
  | m + 1, f, none, c, t, s, e, t', s', h => by
    have ih := exec_n C m
    cases c <;> simp only [exec] at h
    case skip => simp only [Option.some.injEq, Prod.mk.injEq] at h; rw [h.2.1]
    case label => simp only [Option.some.injEq, Prod.mk.injEq] at h; rw [h.2.1]
    case exit => simp only [Option.some.injEq, Prod.mk.injEq] at h; rw [h.2.1]
    case goto => simp only [Option.some.injEq, Prod.mk.injEq] at h; rw [h.2.1]
    case ret => simp only [Option.some.injEq, Prod.mk.injEq] at h; rw [h.2.1]
    case seq a b =>
      split at h
      · rename_i t1 s1 h1; rw [ih _ _ _ _ _ _ _ _ h, ih _ _ _ _ _ _ _ _ h1]
      · exact ih _ _ _ _ _ _ _ _ h
    case cond o a b =>
      split at h
      · exact ih _ _ _ _ _ _ _ _ h
      · exact ih _ _ _ _ _ _ _ _ h
      · simp at h
    case block id b =>
      split at h
      · rename_i i t1 s1 h1
        split at h <;> simp only [Option.some.injEq, Prod.mk.injEq] at h <;> rw [← h.2.1] <;> exact ih _ _ _ _ _ _ _ _ h1
      · exact ih _ _ _ _ _ _ _ _ h
    case loop b =>
      split at h
      · rename_i t1 s1 h1; rw [ih _ _ _ _ _ _ _ _ h, ih _ _ _ _ _ _ _ _ h1]
      · exact ih _ _ _ _ _ _ _ _ h
    case scope b => exact ih _ _ _ _ _ _ _ _ h
    case region id ops draw =>
      split at h
      · split at h
        · rename_i t1 s1 h1; simp only [Option.some.injEq, Prod.mk.injEq] at h; rw [← h.2.1]; exact xOps_n h1
        · simp at h
      · split at h
        · simp at h
        · split at h
          · rename_i t1 s1 h1; simp only [Option.some.injEq, Prod.mk.injEq] at h; rw [← h.2.1]; exact xPlan_n h1
          · simp at h
    all_goals simp at h

def outX (k : KX) : Option (Ex × TT × St) → R
  | some (e, t, s) => k e t.tr s
  | none => none

theorem kEnd_eq (fn : Func) (C : Ctx) (m : Nat) (k : AV → St → R) (o : Option (Ex × TT × St)) (hn : ∀ e t s, o = some (e, t, s) → t.n = m) : outX (kEnd fn C m k) o = (match (generalizing := false) (match (generalizing := false) o with
      | some (.normal, t', s') | some (.ret, t', s') => (match fRetA C s' t' fn.results.toList with | some v => some (v, s') | none => none)
      | _ => none : Option (AV × St)) with | some (v, s') => k v s' | none => none) := by
  rcases o with _ | ⟨e, ⟨n', t⟩, s⟩
  · rfl
  · obtain rfl : n' = m := hn e ⟨n', t⟩ s rfl
    cases e with
    | normal => show ob (fRetA C s ⟨n', t⟩ fn.results.toList) (fun v => k v s) = _; simp only; cases fRetA C s ⟨n', t⟩ fn.results.toList <;> rfl
    | ret => show ob (fRetA C s ⟨n', t⟩ fn.results.toList) (fun v => k v s) = _; simp only; cases fRetA C s ⟨n', t⟩ fn.results.toList <;> rfl
    | exit i => rfl
    | goto l => rfl

theorem outX_then {m : Nat} {o : Option (Ex × TT × St)} (hn : ∀ e t s, o = some (e, t, s) → t.n = m) (k k' : KX) (f : Ex → TT → St → Option (Ex × TT × St)) (h : ∀ e t s, k' e t s = outX k (f e ⟨m, t⟩ s)) :
    outX k' o = outX k (match (generalizing := false) o with | some (e, t, s) => f e t s | none => none) := by
  rcases o with _ | ⟨e, ⟨n', t⟩, s⟩
  · rfl
  · obtain rfl : n' = m := hn e ⟨n', t⟩ s rfl
    exact h e t s

theorem kExec_eq (C : Ctx) : ∀ (m : Nat) (f : FuncId) (n : Nat) (sc : Option Code) (c : Code) (t : Slots) (s : St) (k : KX), kExec C m f n sc c t s k = outX k (exec C m f sc c ⟨n, t⟩ s)
  | 0, f, n, sc, c, t, s, k => rfl
  | m + 1, f, n, some b, c, t, s, k => by
    have ih := kExec_eq C m
    show kIn b c (kExec C m) f n t s k = _
    unfold kIn
    rw [ih]
    rw [outX_then (fun e t' s' h => exec_n C m _ _ _ _ _ _ _ _ h) k _ (fun e t s => match e with
      | .goto l => (match findLabel b l with | some rest => exec C m f (some b) rest t s | none => none)
      | e => some (e, t, s)) (fun e t s => by
        cases e with
        | goto l => simp only; cases findLabel b l with | none => rfl | some rest => exact ih _ _ _ _ _ _ _
        | _ => rfl)]
    simp only [exec]
    rcases exec C m f none c ⟨n, t⟩ s with _ | ⟨e, t', s'⟩
    · rfl
    · cases e <;> rfl
  | m + 1, f, n, none, c, t, s, k => by
    have ih := kExec_eq C m
    have hn : ∀ (b : Code) (t : Slots) (s : St) e t' s', exec C m f none b ⟨n, t⟩ s = some (e, t', s') → t'.n = n := fun b t s e t' s' h => exec_n C m _ _ _ _ _ _ _ _ h
    show kCode c C (kExec C m) f n t s k = _
    cases c with
    | region id ops draw =>
      have hc : CallEq (kCall C (kExec C m)) (callW C (exec C m)) := by
        intro g args s k
        simp only [kCall, callW]
        cases C.memo g args with
        | some v => rfl
        | none =>
        simp only
        cases C.F g with
        | none => rfl
        | some fn =>
          simp only
          cases fn.body with
          | none => rfl
          | some c =>
            simp only
            rw [ih]
            exact kEnd_eq fn C _ k _ fun e t' s' h => exec_n C m _ _ _ _ _ _ _ _ h
      cases draw with
      | false =>
        show kOps C (kCall C (kExec C m)) (C.rows f id) ops n ops.toList t s (k .normal) = _
        rw [kOps_eq hc]
        simp only [exec]
        rcases xOps C (callW C (exec C m)) (C.rows f id) ops ops.toList ⟨n, t⟩ s with _ | ⟨t', s'⟩ <;> rfl
      | true =>
        show (match planOk ops [] none (mkPlan C ops) with
          | false => none
          | true => kPlan C (kCall C (kExec C m)) (C.rows f id) ops n (mkPlan C ops) t s (k .normal)) = _
        simp only [exec]
        cases planOk ops [] none (mkPlan C ops) with
        | false => rfl
        | true =>
          simp only
          rw [kPlan_eq hc]
          rcases xPlan C (callW C (exec C m)) (C.rows f id) ops (mkPlan C ops) ⟨n, t⟩ s with _ | ⟨t', s'⟩ <;> rfl
    | seq a b =>
      show kExec C m f n none a t s _ = _
      rw [ih, outX_then (hn a t s) k _ (fun e t s => match e with | .normal => exec C m f none b t s | e => some (e, t, s)) (fun e t s => by
        cases e with
        | normal => exact ih _ _ _ _ _ _ _
        | _ => rfl)]
      simp only [exec]
      rcases exec C m f none a ⟨n, t⟩ s with _ | ⟨e, t', s'⟩
      · rfl
      · cases e <;> rfl
    | cond o a b =>
      show (kEv o C t fun v => match v with
        | .bool b' => Bool.rec (motive := fun _ => R) (kExec C m f n none b t s k) (kExec C m f n none a t s k) b'
        | _ => none) = _
      rw [kEv_eq C n]
      simp only [exec]
      cases fev C ⟨n, t⟩ o with
      | none => rfl
      | some v =>
        cases v with
        | bool b' => cases b' <;> exact ih _ _ _ _ _ _ _
        | _ => rfl
    | block id b =>
      show kExec C m f n none b t s _ = _
      rw [ih, outX_then (hn b t s) k _ (fun e t s => match e with | .exit i => (match Nat.beq i id with | true => some (.normal, t, s) | false => some (.exit i, t, s)) | e => some (e, t, s)) (fun e t s => by
        cases e with
        | exit i => simp only; cases Nat.beq i id <;> rfl
        | _ => rfl)]
      simp only [exec]
      rcases exec C m f none b ⟨n, t⟩ s with _ | ⟨e, t', s'⟩
      · rfl
      · cases e <;> rfl
    | loop b =>
      show kExec C m f n none b t s _ = _
      rw [ih, outX_then (hn b t s) k _ (fun e t s => match e with | .normal => exec C m f none (.loop b) t s | e => some (e, t, s)) (fun e t s => by
        cases e with
        | normal => exact ih _ _ _ _ _ _ _
        | _ => rfl)]
      simp only [exec]
      rcases exec C m f none b ⟨n, t⟩ s with _ | ⟨e, t', s'⟩
      · rfl
      · cases e <;> rfl
    | scope b => exact ih _ _ _ _ _ _ _
    | _ => rfl

/-- A call that is carried out. -/
def kRun (C : Ctx) (m : Nat) (g : FuncId) (args : List AV) (s : St) : R := kCall C (kExec C m) g args s fun v s' => some (v, s')

theorem kRun_ok {C : Ctx} (hC : COk C) (hM : MemoOk C) {m : Nat} {g : FuncId} {args : List AV} {s s' : St} {v : AV} (h : kRun C m g args s = some (v, s')) : SCall C g args s.as fun a b => a = v ∧ b = s'.as := by
  refine callF_ok hC hM (n := m) ?_
  unfold kRun kCall at h
  unfold callF callW
  cases hm : C.memo g args with
  | some v' => simp only [hm] at h ⊢; exact h
  | none =>
  simp only [hm] at h ⊢
  cases hF : C.F g with
  | none => simp only [hF] at h; exact absurd h (by simp)
  | some fn =>
    simp only [hF] at h ⊢
    cases hb : fn.body with
    | none => simp only [hb] at h; exact absurd h (by simp)
    | some c =>
      simp only [hb] at h ⊢
      rw [kExec_eq] at h
      have e := kEnd_eq fn C (args.length + (fn.ntmps - args.length)) (fun v s' => some (v, s')) (exec C m g none c (TT.enter fn args) s) (fun e t' s' h => exec_n C m _ _ _ _ _ _ _ _ h)
      have h' := e.symm.trans h
      revert h'
      rcases exec C m g none c (TT.enter fn args) s with _ | ⟨e', t', s''⟩
      · intro h'; simp at h'
      · cases e' with
        | normal => simp only; cases fRetA C s'' t' fn.results.toList with | none => intro h'; simp at h' | some u => intro h'; exact h'
        | ret => simp only; cases fRetA C s'' t' fn.results.toList with | none => intro h'; simp at h' | some u => intro h'; exact h'
        | exit i => intro h'; simp at h'
        | goto l => intro h'; simp at h'

end
end Go.W
