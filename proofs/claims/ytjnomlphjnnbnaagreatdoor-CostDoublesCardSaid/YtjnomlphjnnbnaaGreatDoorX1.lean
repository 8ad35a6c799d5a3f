/- Stores and slots as trees, and the operations on them: what they tell is what the lists tell. Conditions: none. -/
import Derived.Test.YtjnomlphjnnbnaaGreatDoorW17
set_option linter.unusedVariables false
set_option linter.unusedSimpArgs false
namespace Go.W
noncomputable section

/-- A place in a tree. -/
inductive Pa where
  | h
  | a (p : Pa)
  | b (p : Pa)
  | c (p : Pa)
  | d (p : Pa)
  deriving DecidableEq
def Pa.num : Pa → Nat
  | .h => 0
  | .a p => 4 * p.num + 1
  | .b p => 4 * p.num + 2
  | .c p => 4 * p.num + 3
  | .d p => 4 * p.num + 4
def pathF : Nat → Nat → Pa
  | 0, _ => .h
  | f + 1, k => match k with
    | 0 => .h
    | k' + 1 => match Nat.mod k' 4 with
      | 0 => .a (pathF f (Nat.div k' 4))
      | 1 => .b (pathF f (Nat.div k' 4))
      | 2 => .c (pathF f (Nat.div k' 4))
      | _ => .d (pathF f (Nat.div k' 4))
theorem pathF_num : ∀ (f k : Nat), k ≤ f → (pathF f k).num = k
  | 0, k, h => by
    obtain rfl : k = 0 := by omega
    rfl
  | f + 1, 0, h => rfl
  | f + 1, k + 1, h => by
    have h0 : Nat.mod k 4 = k % 4 := rfl
    have h1 : Nat.div k 4 = k / 4 := rfl
    have ih := pathF_num f (k / 4) (by omega)
    simp only [pathF, h0, h1]
    have h4 : k % 4 = 0 ∨ k % 4 = 1 ∨ k % 4 = 2 ∨ k % 4 = 3 := by omega
    rcases h4 with e | e | e | e <;> rw [e] <;> simp only [Pa.num, ih] <;> omega
def path (k : Nat) : Pa := pathF k k
theorem path_inj {j k : Nat} (h : path j = path k) : j = k := by
  have := congrArg Pa.num h
  simp only [path] at this
  rwa [pathF_num _ _ (Nat.le_refl _), pathF_num _ _ (Nat.le_refl _)] at this

inductive Tr (α : Type) where
  | e
  | n (a b c d : Tr α) (v : α)

namespace Tr
variable {α : Type}
/-- By the recursors themselves: so it is least work for the kernel. -/
def getP (o : α) (t : Tr α) (p : Pa) : α :=
  Tr.rec (motive := fun _ => Pa → α) (fun _ => o) (fun _ _ _ _ v ia ib ic id p => Pa.rec (motive := fun _ => α) v (fun p' _ => ia p') (fun p' _ => ib p') (fun p' _ => ic p') (fun p' _ => id p') p) t p
def singleP (o : α) (x : α) (p : Pa) : Tr α := Pa.rec (motive := fun _ => Tr α) (.n .e .e .e .e x) (fun _ ih => .n ih .e .e .e o) (fun _ ih => .n .e ih .e .e o) (fun _ ih => .n .e .e ih .e o) (fun _ ih => .n .e .e .e ih o) p
def setP (o : α) (x : α) (t : Tr α) (p : Pa) : Tr α :=
  Tr.rec (motive := fun _ => Pa → Tr α) (fun p => singleP o x p)
    (fun a b c d v ia ib ic id p => Pa.rec (motive := fun _ => Tr α) (.n a b c d x) (fun p' _ => .n (ia p') b c d v) (fun p' _ => .n a (ib p') c d v) (fun p' _ => .n a b (ic p') d v) (fun p' _ => .n a b c (id p') v) p) t p
def get (o : α) (t : Tr α) (k : Nat) : α :=
  Tr.rec (motive := fun _ => Pa → α) (fun _ => o) (fun _ _ _ _ v ia ib ic id p => Pa.rec (motive := fun _ => α) v (fun p' _ => ia p') (fun p' _ => ib p') (fun p' _ => ic p') (fun p' _ => id p') p) t (path k)
def set (o : α) (t : Tr α) (k : Nat) (x : α) : Tr α :=
  Tr.rec (motive := fun _ => Pa → Tr α) (fun p => singleP o x p)
    (fun a b c d v ia ib ic id p => Pa.rec (motive := fun _ => Tr α) (.n a b c d x) (fun p' _ => .n (ia p') b c d v) (fun p' _ => .n a (ib p') c d v) (fun p' _ => .n a b (ic p') d v) (fun p' _ => .n a b c (id p') v) p) t (path k)

theorem singleP_get (o x : α) (p : Pa) : ∀ q : Pa, getP o (singleP o x p) q = if q = p then x else o := by
  induction p with
  | h => intro q; cases q <;> rfl
  | a p ih =>
    intro q
    cases q with
    | a q =>
      show getP o (singleP o x p) q = _
      rw [ih q]
      by_cases e : q = p
      · subst e; simp
      · rw [if_neg e, if_neg (fun e' => e (Pa.a.inj e'))]
    | _ => rfl
  | b p ih =>
    intro q
    cases q with
    | b q =>
      show getP o (singleP o x p) q = _
      rw [ih q]
      by_cases e : q = p
      · subst e; simp
      · rw [if_neg e, if_neg (fun e' => e (Pa.b.inj e'))]
    | _ => rfl
  | c p ih =>
    intro q
    cases q with
    | c q =>
      show getP o (singleP o x p) q = _
      rw [ih q]
      by_cases e : q = p
      · subst e; simp
      · rw [if_neg e, if_neg (fun e' => e (Pa.c.inj e'))]
    | _ => rfl
  | d p ih =>
    intro q
    cases q with
    | d q =>
      show getP o (singleP o x p) q = _
      rw [ih q]
      by_cases e : q = p
      · subst e; simp
      · rw [if_neg e, if_neg (fun e' => e (Pa.d.inj e'))]
    | _ => rfl
theorem getP_setP (o x : α) (t : Tr α) : ∀ p q : Pa, getP o (setP o x t p) q = if q = p then x else getP o t q := by
  induction t with
  | e => intro p q; exact singleP_get o x p q
  | n a b c d v iha ihb ihc ihd =>
    intro p q
    cases p with
    | h => cases q <;> rfl
    | a p =>
      cases q with
      | a q =>
        show getP o (setP o x a p) q = _
        rw [iha p q]
        by_cases e : q = p
        · subst e; simp
        · rw [if_neg e, if_neg (fun e' => e (Pa.a.inj e'))]; rfl
      | _ => rfl
    | b p =>
      cases q with
      | b q =>
        show getP o (setP o x b p) q = _
        rw [ihb p q]
        by_cases e : q = p
        · subst e; simp
        · rw [if_neg e, if_neg (fun e' => e (Pa.b.inj e'))]; rfl
      | _ => rfl
    | c p =>
      cases q with
      | c q =>
        show getP o (setP o x c p) q = _
        rw [ihc p q]
        by_cases e : q = p
        · subst e; simp
        · rw [if_neg e, if_neg (fun e' => e (Pa.c.inj e'))]; rfl
      | _ => rfl
    | d p =>
      cases q with
      | d q =>
        show getP o (setP o x d p) q = _
        rw [ihd p q]
        by_cases e : q = p
        · subst e; simp
        · rw [if_neg e, if_neg (fun e' => e (Pa.d.inj e'))]; rfl
      | _ => rfl
theorem get_e (o : α) (k : Nat) : (Tr.e : Tr α).get o k = o := rfl
theorem get_set (o : α) (t : Tr α) (k : Nat) (x : α) (j : Nat) : (set o t k x).get o j = if j = k then x else t.get o j := by
  show getP o (setP o x t (path k)) (path j) = if j = k then x else getP o t (path j)
  rw [getP_setP]
  by_cases e : j = k
  · subst e; simp
  · rw [if_neg e, if_neg (fun e' => e (path_inj e'))]
end Tr

structure TT where
  n : Nat
  tr : Tr AV
def TT.T (t : TT) : T := ⟨t.n, fun k => t.tr.get .undef k⟩
def TT.get (t : TT) (k : Nat) : AV := match t with | ⟨_, tr⟩ => tr.get .undef k
def TT.put (t : TT) (d : Option Nat) (v : AV) : Option TT := match d with
  | none => some t
  | some k => match t with
    | ⟨n, tr⟩ => match Nat.ble (Nat.succ k) n with | true => some ⟨n, tr.set .undef k v⟩ | false => none

theorem TT.get_ok (t : TT) (k : Nat) : t.get k = t.T.get k := rfl
theorem TT.put_ok {t t' : TT} {d : Option Nat} {v : AV} (h : t.put d v = some t') : t.T.put d v = some t'.T := by
  cases d with
  | none => simp [put] at h; subst h; rfl
  | some k =>
    simp only [put] at h
    split at h
    · rename_i hk
      simp only [Option.some.injEq] at h; subst h
      have hk' : k < t.n := Nat.le_of_ble_eq_true hk
      simp only [Go.W.T.put]
      rw [if_pos (show k < t.T.n from hk')]
      congr 1
      refine T.ext' rfl fun j => ?_
      show (if k = j then v else t.tr.get .undef j) = (t.tr.set .undef k v).get .undef j
      rw [Tr.get_set]
      by_cases hj : j = k
      · subst hj; simp
      · rw [if_neg (Ne.symm hj), if_neg hj]
    · simp at h

structure St where
  n : Nat
  tr : Tr AObj
def St.as (s : St) : AS := (List.range s.n).map fun i => s.tr.get .dead i
def St.get (s : St) (id : Nat) : Option AObj := match s with
  | ⟨n, tr⟩ => match Nat.ble (Nat.succ id) n with | true => some (tr.get .dead id) | false => none
def St.set (s : St) (id : Nat) (o : AObj) : St := match s with | ⟨n, tr⟩ => ⟨n, tr.set .dead id o⟩
def St.push (s : St) (o : AObj) : St := match s with | ⟨n, tr⟩ => ⟨Nat.succ n, tr.set .dead n o⟩
theorem St.len (s : St) : s.as.length = s.n := by simp [as]
theorem St.get_ok (s : St) (id : Nat) : s.get id = s.as[id]? := by
  simp only [get, as, List.getElem?_map]
  by_cases h : id < s.n
  · rw [show Nat.ble (Nat.succ id) s.n = true from Nat.ble_eq_true_of_le h]; simp [h]
  · rw [show Nat.ble (Nat.succ id) s.n = false by rw [← Bool.not_eq_true]; exact fun h' => h (Nat.le_of_ble_eq_true h')]; simp [h]
theorem St.set_ok (s : St) (id : Nat) (o : AObj) : (s.set id o).as = s.as.set id o := by
  apply List.ext_getElem?
  intro j
  simp only [as, set, List.getElem?_set, List.getElem?_map, List.length_map, List.length_range]
  by_cases hj : j < s.n
  · simp only [List.getElem?_range hj, Option.map_some]
    rw [Tr.get_set]
    by_cases he : id = j
    · subst he; simp [hj]
    · rw [if_neg (Ne.symm he), if_neg he]
  · simp [show ¬ j < s.n from hj]
    intro h1; omega
theorem St.push_ok (s : St) (o : AObj) : (s.push o).as = s.as ++ [o] := by
  apply List.ext_getElem?
  intro j
  simp only [as, push, List.getElem?_append, List.getElem?_map, List.length_map, List.length_range]
  by_cases hj : j < s.n
  · simp only [List.getElem?_range hj, List.getElem?_range (show j < s.n + 1 by omega), Option.map_some, if_pos hj]
    rw [Tr.get_set, if_neg (by omega)]
  · rw [if_neg hj]
    by_cases he : j = s.n
    · subst he
      simp only [List.getElem?_range (Nat.lt_succ_self _), Option.map_some, Nat.sub_self, List.getElem?_cons_zero]
      rw [Tr.get_set]; simp
    · have : j - s.n = (j - s.n - 1) + 1 := by omega
      rw [this]; simp; omega

/-! The operations over what rows a store has. -/
def fRow (s : St) (id : Nat) : Option (List (List AV)) := match s.get id with
  | some (.row es) => some es
  | some (.ro es) => some es
  | _ => none
theorem fRow_ok (s : St) : fRow s = rowOf s.as := by
  funext id; unfold fRow rowOf; rw [St.get_ok]; rfl

abbrev RO := Nat → Option (List (List AV))
def gTarget (ro : RO) : AV → Option (List AV × Nat)
  | .pp es i off => (es[i]?).map fun e => (e, off)
  | .ptr id i off => (ro id).bind fun es => (es[i]?).map fun e => (e, off)
  | _ => none
theorem gTarget_ok (σ : AS) (a : AV) : gTarget (rowOf σ) a = target σ a := by cases a <;> rfl
def gLoad (C : Ctx) (ro : RO) (t : TypeId) (a : AV) : Option AV :=
  (C.D t).bind fun d => (gTarget ro a).bind fun (cs, off) => (cut cs off d.size).bind fun l => mkVal d l
theorem gLoad_ok (C : Ctx) (σ : AS) (t : TypeId) (a : AV) : gLoad C (rowOf σ) t a = aLoad C σ t a := by
  unfold gLoad aLoad; rw [gTarget_ok]
def gIndexAddr (C : Ctx) (t : TypeId) (ro : RO) (x i : AV) : Option AV := match i with
  | .int _ i => if i < 0 then none else (C.D t).bind fun d => match d.kd, x with
    | .slice e, .list es _ => (C.D e).bind fun de => (es[i.toNat]?).bind fun g => if g.length = de.size then some (.pp es i.toNat 0) else none
    | .slice e, .sl id off n => if i < n then (C.D e).bind fun de => (ro id).bind fun es => (es[off + i.toNat]?).bind fun g => if g.length = de.size then some (.ptr id (off + i.toNat) 0) else none else none
    | .array len e, .ptr id j o => (C.D e).bind fun de => if i < len then some (.ptr id j (o + i.toNat * de.size)) else none
    | .array len e, .pp es j o => (C.D e).bind fun de => if i < len then some (.pp es j (o + i.toNat * de.size)) else none
    | _, _ => none
  | _ => none
theorem gIndexAddr_ok (C : Ctx) (t : TypeId) (σ : AS) (x i : AV) : gIndexAddr C t (rowOf σ) x i = aIndexAddr C t σ x i := by
  unfold gIndexAddr aIndexAddr; rfl
def gElems (ro : RO) : AV → Option (List (List AV))
  | .list es _ => some es
  | .sl id off n => (ro id).bind fun es => if off + n ≤ es.length then some ((es.drop off).take n) else none
  | _ => none
theorem gElems_ok (σ : AS) (x : AV) : gElems (rowOf σ) x = elems σ x := by cases x <;> rfl
def gConvert (C : Ctx) (src dst : TypeId) (ro : RO) (x : AV) : Option AV := match x with
  | .int _ n => (match kindOf C src, kindOf C dst with | some _, some (.scal k) => some (.int k (k.wrap n)) | _, _ => none)
  | .str l => (match kindOf C src, kindOf C dst with | some .str, some .str => some (.str l) | _, _ => none)
  | x => (match kindOf C src, kindOf C dst with
    | some (.slice e), some .str => if isByte C e then (gElems ro x).bind fun es => (bytesOf es).map .str else none
    | _, _ => none)
theorem gConvert_ok (C : Ctx) (src dst : TypeId) (σ : AS) (x : AV) : gConvert C src dst (rowOf σ) x = aConvert C src dst σ x := by
  unfold gConvert aConvert; simp only [gElems_ok]; rfl
def gSlice (C : Ctx) (t : TypeId) (ro : RO) (x : AV) (lo hi : Option AV) : Option AV :=
  (C.D t).bind fun d => match d.kd, x with
  | .str, .str l => (hiOf hi l.length).bind fun h => (loOf lo h).bind fun a => some (.str ((l.take h).drop a))
  | .slice e, .list es tl => (hiOf hi es.length).bind fun h => (loOf lo h).bind fun a => (C.D e).bind fun de =>
      if a = 0 ∨ lensAre de.size es = true then some (.list ((es.take h).drop a) (if hi.isNone then tl else .no)) else none
  | .slice e, .sl id off n => (hiOf hi n).bind fun h => (loOf lo h).bind fun a => (C.D e).bind fun de => (ro id).bind fun es =>
      if a = 0 ∨ (0 < es.length ∧ lensAre de.size es = true) then some (.sl id (off + a) (h - a)) else none
  | _, _ => none
theorem gSlice_ok (C : Ctx) (t : TypeId) (σ : AS) (x : AV) (lo hi : Option AV) : gSlice C t (rowOf σ) x lo hi = aSlice C t σ x lo hi := by
  unfold gSlice aSlice; rfl

def fSliceArr (C : Ctx) (t : TypeId) (s : St) (x : AV) (lo hi : Option AV) : Option (AV × St) :=
  (C.D t).bind fun d => match d.kd, x with
  | .array n el, .ptr id 0 0 => (C.D el).bind fun de => match s.get id with
    | some (.row [g]) => if de.size = 1 ∧ g.length = n then (hiOf hi n).bind fun h => (loOf lo h).bind fun a => some (.sl s.n a (h - a), (s.set id .dead).push (.row (g.map fun c => [c]))) else none
    | _ => none
  | _, _ => none
theorem fSliceArr_ok {C : Ctx} {t : TypeId} {s s' : St} {x v : AV} {lo hi : Option AV} (h : fSliceArr C t s x lo hi = some (v, s')) : aSliceArr C t s.as x lo hi = some (v, s'.as) := by
  simp only [fSliceArr, Option.bind_eq_some_iff] at h
  simp only [aSliceArr, Option.bind_eq_some_iff]
  obtain ⟨d, hd, h⟩ := h
  refine ⟨d, hd, ?_⟩
  split at h
  · rename_i n el id hk
    simp only [hk, Option.bind_eq_some_iff] at h ⊢
    obtain ⟨de, hde, h⟩ := h
    refine ⟨de, hde, ?_⟩
    rw [St.get_ok] at h
    split at h
    · rename_i g hg
      simp only [hg]
      split at h
      · rename_i hc
        rw [if_pos hc]
        simp only [Option.bind_eq_some_iff, Option.some.injEq, Prod.mk.injEq] at h ⊢
        obtain ⟨b, hb, a, ha, rfl, rfl⟩ := h
        exact ⟨b, hb, a, ha, by rw [St.len], by rw [St.push_ok, St.set_ok]⟩
      · simp at h
    · simp at h
  · simp at h
def fSliceAny (C : Ctx) (t : TypeId) (s : St) (x : AV) (lo hi : Option AV) : Option (AV × St) := match kindOf C t with
  | some (.array _ _) => fSliceArr C t s x lo hi
  | _ => match gSlice C t (fRow s) x lo hi with | some v => some (v, s) | none => none
theorem fSliceAny_ok {C : Ctx} {t : TypeId} {s s' : St} {x v : AV} {lo hi : Option AV} (h : fSliceAny C t s x lo hi = some (v, s')) : aSliceAny C t s.as x lo hi = some (v, s'.as) := by
  unfold fSliceAny at h; unfold aSliceAny
  split at h
  · rename_i hk; simp only [hk]; exact fSliceArr_ok h
  · rename_i hk
    rw [fRow_ok, gSlice_ok] at h
    split at h
    · rename_i y hy
      simp only [Option.some.injEq, Prod.mk.injEq] at h
      obtain ⟨rfl, rfl⟩ := h
      split
      · rename_i hk'; exact absurd hk' (hk _ _)
      · rw [hy]
    · simp at h

def fMap (s : St) : AV → Option (List (AV × AV))
  | .nilm => some []
  | .map id => match s.get id with | some (.map es) => some es | _ => none
  | _ => none
theorem fMap_ok (s : St) (m : AV) : fMap s m = mapOf s.as m := by
  cases m <;> first | rfl | (simp only [fMap, mapOf, St.get_ok]; rfl)
def fLookup (C : Ctx) (t : TypeId) (s : St) (m k : AV) (ok : Bool) : Option AV :=
  (C.D t).bind fun d => match d.kd with
  | .map kt e => if keyOk C kt k then (fMap s m).bind fun es =>
    (findKey k es).bind fun r => (match r with | some v => some v | none => zeroOf C e).bind fun v =>
      some (if ok then .tup [v, .bool r.isSome] else v)
    else none
  | _ => none
theorem fLookup_ok (C : Ctx) (t : TypeId) (s : St) (m k : AV) (ok : Bool) : fLookup C t s m k ok = aLookup C t s.as m k ok := by
  unfold fLookup aLookup; simp only [fMap_ok]; rfl

/-! The operations that change the store. -/
def fStore (C : Ctx) (s : St) (t : TypeId) (a v : AV) : Option St := match a with
  | .ptr id i off => match s.get id with
    | some (.row es) => (C.D t).bind fun d => (es[i]?).bind fun e =>
        (cellsOf v).bind fun l => if l.length = d.size then (putCells e off l).map fun e' => s.set id (.row (es.set i e')) else none
    | _ => none
  | _ => none
theorem fStore_ok {C : Ctx} {s s' : St} {t : TypeId} {a v : AV} (h : fStore C s t a v = some s') : aStore C s.as t a v = some s'.as := by
  unfold fStore at h; unfold aStore
  cases a <;> simp only [reduceCtorEq] at h ⊢
  rename_i id i off
  rw [St.get_ok] at h
  split at h
  · rename_i es he
    simp only [he]
    simp only [Option.bind_eq_some_iff] at h ⊢
    obtain ⟨d, hd, e, hee, l, hl, h⟩ := h
    refine ⟨d, hd, e, hee, l, hl, ?_⟩
    split at h
    · rename_i hs
      rw [if_pos hs]
      simp only [Option.map_eq_some_iff] at h ⊢
      obtain ⟨e', h1, h2⟩ := h
      exact ⟨e', h1, by rw [← h2, St.set_ok]⟩
    · simp at h
  · simp at h

def fAppend (C : Ctx) (mq : Bool) (t : TypeId) (s : St) (x y : AV) : Option (AV × St) :=
  (C.D t).bind fun d => match d.kd with
  | .slice e => (C.D e).bind fun de =>
    (match y with | .str l => some (strElems l) | y => gElems (fRow s) y).bind fun new =>
    (gElems (fRow s) x).bind fun old =>
    if new.length = 0 then some (x, s)
    else if (old.length + new.length) * de.bytes ≤ room ∧ 0 < de.size ∧ 0 < de.bytes ∧ lensAre de.size old = true ∧ lensAre de.size new = true then
      match x with
      | .sl id _ _ => match s.get id with
        | some (.row es) => if new.all (fun e => e.all AV.isCell) = true ∧ 0 < es.length ∧ lensAre de.size es = true then some (.sl s.n 0 (old.length + new.length), (s.set id .dead).push (.row (old ++ new))) else none
        | _ => none
      | .list _ tl =>
        (match tl with
          | .no => none
          | .tok id => (match s.get id with | some (.tok z) => if mq then none else if z = de.size then some (s.set id .dead) else none | _ => none)
          | _ => some s).bind fun s1 =>
          if mq then (if new.all (fun e => e.all AV.isCell) then some (.sl s1.n 0 (old.length + new.length), s1.push (.row (old ++ new))) else none)
          else (cleanEls new).bind fun cl => some (.list (old ++ cl) (.tok s1.n), s1.push (.tok de.size))
      | _ => none
    else none
  | _ => none

theorem srcElems_f (s : St) (y : AV) : (match y with | .str l => some (strElems l) | y => gElems (fRow s) y) = srcElems s.as y := by
  rw [fRow_ok]
  cases y <;> simp only [srcElems, gElems_ok]

theorem fAppend_ok {C : Ctx} {mq : Bool} {t : TypeId} {s : St} {x y v : AV} {s' : St} (h : fAppend C mq t s x y = some (v, s')) : aAppend C mq t s.as x y = some (v, s'.as) := by
  unfold fAppend at h; unfold aAppend
  simp only [Option.bind_eq_some_iff] at h ⊢
  obtain ⟨d, hd, h⟩ := h
  refine ⟨d, hd, ?_⟩
  split at h
  · rename_i e hk
    simp only [hk, Option.bind_eq_some_iff] at h ⊢
    obtain ⟨de, hde, new, hnew, old, hold, h⟩ := h
    rw [fRow_ok, gElems_ok] at hold
    rw [srcElems_f] at hnew
    refine ⟨de, hde, new, hnew, old, hold, ?_⟩
    split at h
    · rename_i h0
      rw [if_pos h0]
      simp only [Option.some.injEq, Prod.mk.injEq] at h ⊢
      exact ⟨h.1, by rw [h.2]⟩
    · rename_i h0
      rw [if_neg h0]
      split at h
      · rename_i hc
        rw [if_pos hc]
        split at h
        · rename_i id o2 n2
          rw [St.get_ok] at h
          split at h
          · rename_i es hes
            simp only [hes]
            split at h
            · rename_i hq
              rw [if_pos hq]
              simp only [Option.some.injEq, Prod.mk.injEq] at h ⊢
              obtain ⟨rfl, rfl⟩ := h
              exact ⟨by rw [St.len], by rw [St.push_ok, St.set_ok]⟩
            · simp at h
          · simp at h
        · rename_i es2 tl
          simp only [Option.bind_eq_some_iff] at h
          obtain ⟨s1, hs1, h⟩ := h
          have key : (match (generalizing := false) tl with
            | .no => none
            | .tok id => (match s.as[id]? with | some (.tok z) => if mq then none else if z = de.size then some (s.as.set id .dead) else none | _ => none)
            | _ => some s.as) = some s1.as := by
            clear hold
            cases tl <;> simp only [reduceCtorEq, Option.some.injEq] at hs1
            · simp only [hs1]
            · simp only [hs1]
            · rw [St.get_ok] at hs1
              split at hs1
              · rename_i z hz
                simp only [hz]
                split at hs1
                · simp at hs1
                · rename_i hm
                  rw [if_neg hm]
                  split at hs1
                  · rename_i hzz
                    rw [if_pos hzz]
                    simp only [Option.some.injEq] at hs1 ⊢
                    rw [← hs1, St.set_ok]
                  · simp at hs1
              · simp at hs1
          rw [Option.bind_eq_some_iff]
          refine ⟨s1.as, key, ?_⟩
          split at h
          · rename_i hm
            rw [if_pos hm]
            split at h
            · rename_i hall
              rw [if_pos hall]
              simp only [Option.some.injEq, Prod.mk.injEq] at h ⊢
              obtain ⟨rfl, rfl⟩ := h
              exact ⟨by rw [St.len], by rw [St.push_ok]⟩
            · simp at h
          · rename_i hm
            rw [if_neg hm]
            simp only [Option.bind_eq_some_iff] at h ⊢
            obtain ⟨cl, hcl, h⟩ := h
            refine ⟨cl, hcl, ?_⟩
            simp only [Option.some.injEq, Prod.mk.injEq] at h ⊢
            obtain ⟨rfl, rfl⟩ := h
            exact ⟨by rw [St.len], by rw [St.push_ok]⟩
        · simp at h
      · simp at h
  · simp at h

def fMapUpdate (C : Ctx) (t : TypeId) (s : St) (m k v : AV) : Option St :=
  (C.D t).bind fun d => match d.kd with
  | .map kt _ => if keyOk C kt k then (match m with
    | .map id => (match s.get id with
      | some (.map es) => (putKey k v es).map fun es' => s.set id (.map es')
      | _ => none)
    | _ => none) else none
  | _ => none
theorem fMapUpdate_ok {C : Ctx} {t : TypeId} {s s' : St} {m k v : AV} (h : fMapUpdate C t s m k v = some s') : aMapUpdate C t s.as m k v = some s'.as := by
  unfold fMapUpdate at h; unfold aMapUpdate
  simp only [Option.bind_eq_some_iff] at h ⊢
  obtain ⟨d, hd, h⟩ := h
  refine ⟨d, hd, ?_⟩
  split at h
  · rename_i kt e hk
    simp only [hk]
    split at h
    · rename_i hko
      rw [if_pos hko]
      split at h
      · rename_i id
        rw [St.get_ok] at h
        split at h
        · rename_i es hes
          simp only [hes, Option.map_eq_some_iff] at h ⊢
          obtain ⟨es', h1, h2⟩ := h
          exact ⟨es', h1, by rw [← h2, St.set_ok]⟩
        · simp at h
      · simp at h
    · simp at h
  · simp at h

def fMakeSlice (C : Ctx) (t : TypeId) (s : St) (l c : AV) : Option (AV × St) := match l, c with
  | .int .i64 l, .int .i64 c => if l = c ∧ 0 ≤ l then (C.D t).bind fun d => match d.kd with
      | .slice e => (C.D e).bind fun de => if l.toNat * de.bytes ≤ room ∧ l.toNat ≤ room ∧ 0 < de.size then some (.sl s.n 0 l.toNat, s.push (.row (List.replicate l.toNat de.zero))) else none
      | _ => none
    else none
  | _, _ => none
theorem fMakeSlice_ok {C : Ctx} {t : TypeId} {s s' : St} {l c v : AV} (h : fMakeSlice C t s l c = some (v, s')) : aMakeSlice C t s.as l c = some (v, s'.as) := by
  unfold fMakeSlice at h; unfold aMakeSlice
  split at h
  · simp only
    split at h
    · rename_i hc
      rw [if_pos hc]
      simp only [Option.bind_eq_some_iff] at h ⊢
      obtain ⟨d, hd, h⟩ := h
      refine ⟨d, hd, ?_⟩
      split at h
      · rename_i e hk
        simp only [hk, Option.bind_eq_some_iff] at h ⊢
        obtain ⟨de, hde, h⟩ := h
        refine ⟨de, hde, ?_⟩
        split at h
        · rename_i hq
          rw [if_pos hq]
          simp only [Option.some.injEq, Prod.mk.injEq] at h ⊢
          obtain ⟨rfl, rfl⟩ := h
          exact ⟨by rw [St.len], by rw [St.push_ok]⟩
        · simp at h
      · simp at h
    · simp at h
  · simp at h

def fBuiltin (C : Ctx) (mq : Bool) (b : Builtin) (tys : List TypeId) (s : St) (args : List AV) : Option (AV × St) := match b, tys, args with
  | .len, [t], [x] => (aLen C t x).map fun (n : Nat) => (.int .i64 (n : Int), s)
  | .append, [t, t2], [x, y] => (match kindOf C t2 with | some (.slice _) => fAppend C mq t s x y | some .str => fAppend C mq t s x y | _ => none)
  | .min, _, args => (ints2 args).map fun (k, a, l) => (.int k (l.foldl (fun x y => if y < x then y else x) a), s)
  | .max, _, args => (ints2 args).map fun (k, a, l) => (.int k (l.foldl (fun x y => if y > x then y else x) a), s)
  | .cap, [t], [x] => (aCap C t x).map fun (n : Nat) => (.int .i64 (n : Int), s)
  | _, _, _ => none
theorem fBuiltin_ok {C : Ctx} {mq : Bool} {b : Builtin} {tys : List TypeId} {s s' : St} {args : List AV} {v : AV} (h : fBuiltin C mq b tys s args = some (v, s')) : aBuiltin C mq b tys s.as args = some (v, s'.as) := by
  unfold fBuiltin at h
  split at h
  · simp only [Option.map_eq_some_iff, Prod.mk.injEq] at h
    obtain ⟨n, hn, rfl, rfl⟩ := h
    simp [aBuiltin, hn]
  · simp only [aBuiltin]
    split at h
    · rename_i hk; simp only [hk]; exact fAppend_ok h
    · rename_i hk; simp only [hk]; exact fAppend_ok h
    · simp at h
  · simp only [Option.map_eq_some_iff, Prod.mk.injEq] at h
    obtain ⟨⟨k, a, l⟩, hn, rfl, rfl⟩ := h
    simp [aBuiltin, hn]
  · simp only [Option.map_eq_some_iff, Prod.mk.injEq] at h
    obtain ⟨⟨k, a, l⟩, hn, rfl, rfl⟩ := h
    simp [aBuiltin, hn]
  · simp only [Option.map_eq_some_iff, Prod.mk.injEq] at h
    obtain ⟨n, hn, rfl, rfl⟩ := h
    simp [aBuiltin, hn]
  · simp at h

inductive FNext where
  | val (v : AV) (s : St)
  | enter (f : FuncId) (args : List AV)
def FNext.a : FNext → ANext
  | .val v s => .val v s.as
  | .enter f as => .enter f as

def fev (C : Ctx) (t : TT) : Operand → Option AV
  | .tmp k => some (t.get k)
  | .const v => absC v
  | .global g => (C.G g).map fun cs => .pp [cs] 0 0
  | .func f => some (.fn f [] [])
theorem fev_ok (C : Ctx) (t : TT) (x : Operand) : fev C t x = ev C t.T x := by cases x <;> rfl
def fevs (C : Ctx) (t : TT) : List Operand → Option (List AV)
  | [] => some []
  | x :: xs => match fev C t x, fevs C t xs with | some a, some as => some (a :: as) | _, _ => none
theorem fevs_ok (C : Ctx) (t : TT) : ∀ xs : List Operand, fevs C t xs = evs C t.T xs
  | [] => rfl
  | x :: xs => by simp only [fevs, evs, fev_ok, fevs_ok C t xs]; rfl
def fevParts (C : Ctx) (t : TT) : List (Nat × Operand) → Option (List (Nat × AV))
  | [] => some []
  | (i, x) :: xs => match fev C t x, fevParts C t xs with | some a, some as => some ((i, a) :: as) | _, _ => none
theorem fevParts_ok (C : Ctx) (t : TT) : ∀ xs : List (Nat × Operand), fevParts C t xs = evParts C t.T xs
  | [] => rfl
  | (i, x) :: xs => by simp only [fevParts, evParts, fev_ok, fevParts_ok C t xs]; rfl

def fval (s : St) (o : Option AV) : Option FNext := match o with | some v => some (.val v s) | none => none
def fval2 (o : Option (AV × St)) : Option FNext := match o with | some (v, s) => some (.val v s) | none => none

/-- One operation. -/
def fOp (C : Ctx) (mq : Bool) (t : TT) (s : St) : Op → Option FNext
  | .move x | .assign x => fval s (fev C t x)
  | .pick c a b => (fev C t c).bind fun c => match c with | .bool c => fval s (fev C t (if c then a else b)) | _ => none
  | .alloc e => (C.D e).bind fun d => some (.val (.ptr s.n 0 0) (s.push (.row [d.zero])))
  | .box _ x => (fev C t x).bind fun v => (cellsOf v).bind fun l => some (.val (.ptr s.n 0 0) (s.push (.row [l])))
  | .build ty parts => fval s ((fevParts C t parts.toList).bind fun ps => aBuild C ty ps)
  | .buildSlice ty len parts => fval s ((fevParts C t parts.toList).bind fun ps => aBuildSlice C ty len ps)
  | .load ty a => (fev C t a).bind fun a => fval s (gLoad C (fRow s) ty a)
  | .store ty a x => (fev C t a).bind fun a => (fev C t x).bind fun v => match fStore C s ty a v with | some s' => some (.val .undef s') | none => none
  | .nilCheck x => (fev C t x).bind fun v => match v with | .ptr _ _ _ | .pp _ _ _ | .fn _ _ _ => some (.val v s) | _ => none
  | .binOp op ty x y _ => (fev C t x).bind fun x => (fev C t y).bind fun y => fval s (aBinT C op ty x y)
  | .unOp op _ x => (fev C t x).bind fun x => fval s (aUn op x)
  | .convert a d x => (fev C t x).bind fun x => fval s (gConvert C a d (fRow s) x)
  | .makeFunc (.func f) first cap => (fevs C t first.toList).bind fun a => (fevs C t cap.toList).bind fun b => some (.val (.fn f a b) s)
  | .makeMap _ none => some (.val (.map s.n) (s.push (.map [])))
  | .makeSlice ty l c => (fev C t l).bind fun l => (fev C t c).bind fun c => fval2 (fMakeSlice C ty s l c)
  | .slice ty x lo hi none => (fev C t x).bind fun x =>
      (match lo with | none => some none | some o => (fev C t o).map some).bind fun lo =>
      (match hi with | none => some none | some o => (fev C t o).map some).bind fun hi => fval2 (fSliceAny C ty s x lo hi)
  | .fieldAddr ty x f => (fev C t x).bind fun x => fval s (aFieldAddr C ty x f)
  | .field ty x f => (fev C t x).bind fun x => fval s (aField C ty x f)
  | .indexAddr ty x i => (fev C t x).bind fun x => (fev C t i).bind fun i => fval s (gIndexAddr C ty (fRow s) x i)
  | .index ty x i => (fev C t x).bind fun x => (fev C t i).bind fun i => fval s (aIndex C ty x i)
  | .lookup ty m k ok => (fev C t m).bind fun m => (fev C t k).bind fun k => fval s (fLookup C ty s m k ok)
  | .mapUpdate ty m k x | .insert ty m k x => (fev C t m).bind fun m => (fev C t k).bind fun k => (fev C t x).bind fun x => match fMapUpdate C ty s m k x with | some s' => some (.val .undef s') | none => none
  | .extract x i => (fev C t x).bind fun x => fval s (aExtract x i)
  | .call { callee := .builtin b, args, argTypes } => (fevs C t args.toList).bind fun as => fval2 (fBuiltin C mq b argTypes.toList s as)
  | .call { callee := .value f, args, .. } => (fev C t f).bind fun f => (fevs C t args.toList).bind fun as => match f with
      | .fn g first cap => if (C.F g).isSome then some (.enter g (first ++ as ++ cap)) else (C.ext g).bind fun h => fval s (h (first ++ as ++ cap))
      | _ => none
  | _ => none

theorem fval_some {s : St} {o : Option AV} {r : FNext} (h : fval s o = some r) : val1 s.as o = some r.a := by
  cases o <;> simp only [fval, reduceCtorEq, Option.some.injEq] at h
  subst h; rfl

set_option maxHeartbeats 1000000 in
theorem fOp_ok {C : Ctx} {mq : Bool} {t : TT} {s : St} {o : Op} {r : FNext} (h : fOp C mq t s o = some r) : aOp C mq t.T s.as o = some r.a := by
  unfold fOp at h; unfold aOp
  split at h
  case h_1 => rw [fev_ok] at h; exact fval_some h
  case h_2 => rw [fev_ok] at h; exact fval_some h
  case h_3 =>
    simp only [Option.bind_eq_some_iff, fev_ok] at h ⊢
    obtain ⟨c, hc, h⟩ := h
    refine ⟨c, hc, ?_⟩
    cases c <;> simp only [reduceCtorEq] at h ⊢
    exact fval_some h
  case h_4 =>
    simp only [Option.bind_eq_some_iff, Option.some.injEq] at h ⊢
    obtain ⟨d, hd, rfl⟩ := h
    exact ⟨d, hd, by simp only [aNew, FNext.a, St.push_ok, St.len]⟩
  case h_5 =>
    simp only [Option.bind_eq_some_iff, Option.some.injEq, fev_ok] at h ⊢
    obtain ⟨v, hv, l, hl, rfl⟩ := h
    exact ⟨v, hv, l, hl, by simp only [aNew, FNext.a, St.push_ok, St.len]⟩
  case h_6 => rw [fevParts_ok] at h; exact fval_some h
  case h_7 => rw [fevParts_ok] at h; exact fval_some h
  case h_8 =>
    simp only [Option.bind_eq_some_iff, fev_ok, fRow_ok, gLoad_ok] at h ⊢
    obtain ⟨a, ha, h⟩ := h
    exact ⟨a, ha, fval_some h⟩
  case h_9 =>
    simp only [Option.bind_eq_some_iff, fev_ok] at h ⊢
    obtain ⟨a, ha, v, hv, h⟩ := h
    refine ⟨a, ha, v, hv, ?_⟩
    split at h
    · rename_i s' hs
      simp only [Option.some.injEq] at h; subst h
      rw [fStore_ok hs]; rfl
    · simp at h
  case h_10 =>
    simp only [Option.bind_eq_some_iff, fev_ok] at h ⊢
    obtain ⟨v, hv, h⟩ := h
    refine ⟨v, hv, ?_⟩
    cases v <;> simp only [reduceCtorEq, Option.some.injEq] at h ⊢ <;> subst h <;> rfl
  case h_11 =>
    simp only [Option.bind_eq_some_iff, fev_ok] at h ⊢
    obtain ⟨x, hx, y, hy, h⟩ := h
    exact ⟨x, hx, y, hy, fval_some h⟩
  case h_12 =>
    simp only [Option.bind_eq_some_iff, fev_ok] at h ⊢
    obtain ⟨x, hx, h⟩ := h
    exact ⟨x, hx, fval_some h⟩
  case h_13 =>
    simp only [Option.bind_eq_some_iff, fev_ok, fRow_ok, gConvert_ok] at h ⊢
    obtain ⟨x, hx, h⟩ := h
    exact ⟨x, hx, fval_some h⟩
  case h_14 =>
    simp only [Option.bind_eq_some_iff, fevs_ok, Option.some.injEq] at h ⊢
    obtain ⟨x, hx, y, hy, rfl⟩ := h
    exact ⟨x, hx, y, hy, rfl⟩
  case h_15 =>
    simp only [Option.some.injEq] at h; subst h
    simp only [FNext.a, St.push_ok, St.len]
  case h_16 =>
    simp only [Option.bind_eq_some_iff, fev_ok] at h ⊢
    obtain ⟨x, hx, y, hy, h⟩ := h
    refine ⟨x, hx, y, hy, ?_⟩
    simp only [fval2] at h
    split at h
    · rename_i v s' hs
      simp only [Option.some.injEq] at h; subst h
      rw [fMakeSlice_ok hs]; rfl
    · simp at h
  case h_17 =>
    simp only [fev_ok] at h
    rw [Option.bind_eq_some_iff] at h ⊢
    obtain ⟨x, hx, h⟩ := h
    refine ⟨x, hx, ?_⟩
    rw [Option.bind_eq_some_iff] at h ⊢
    obtain ⟨lo, hlo, h⟩ := h
    refine ⟨lo, hlo, ?_⟩
    rw [Option.bind_eq_some_iff] at h ⊢
    obtain ⟨hi, hhi, h⟩ := h
    refine ⟨hi, hhi, ?_⟩
    simp only [fval2] at h
    split at h
    · rename_i v s' hs
      simp only [Option.some.injEq] at h; subst h
      rw [fSliceAny_ok hs]; rfl
    · simp at h
  case h_18 =>
    simp only [Option.bind_eq_some_iff, fev_ok] at h ⊢
    obtain ⟨x, hx, h⟩ := h
    exact ⟨x, hx, fval_some h⟩
  case h_19 =>
    simp only [Option.bind_eq_some_iff, fev_ok] at h ⊢
    obtain ⟨x, hx, h⟩ := h
    exact ⟨x, hx, fval_some h⟩
  case h_20 =>
    simp only [Option.bind_eq_some_iff, fev_ok, fRow_ok, gIndexAddr_ok] at h ⊢
    obtain ⟨x, hx, y, hy, h⟩ := h
    exact ⟨x, hx, y, hy, fval_some h⟩
  case h_21 =>
    simp only [Option.bind_eq_some_iff, fev_ok] at h ⊢
    obtain ⟨x, hx, y, hy, h⟩ := h
    exact ⟨x, hx, y, hy, fval_some h⟩
  case h_22 =>
    simp only [Option.bind_eq_some_iff, fev_ok, fLookup_ok] at h ⊢
    obtain ⟨x, hx, y, hy, h⟩ := h
    exact ⟨x, hx, y, hy, fval_some h⟩
  case h_25 =>
    simp only [Option.bind_eq_some_iff, fev_ok] at h ⊢
    obtain ⟨x, hx, h⟩ := h
    exact ⟨x, hx, fval_some h⟩
  case h_26 =>
    simp only [Option.bind_eq_some_iff, fevs_ok] at h ⊢
    obtain ⟨x, hx, h⟩ := h
    refine ⟨x, hx, ?_⟩
    simp only [fval2] at h
    split at h
    · rename_i v s' hs
      simp only [Option.some.injEq] at h; subst h
      rw [fBuiltin_ok hs]; rfl
    · simp at h
  case h_27 =>
    simp only [Option.bind_eq_some_iff, fev_ok, fevs_ok] at h ⊢
    obtain ⟨x, hx, y, hy, h⟩ := h
    refine ⟨x, hx, y, hy, ?_⟩
    cases x <;> simp only [reduceCtorEq] at h ⊢
    split at h
    · rename_i hc
      rw [if_pos hc]
      simp only [Option.some.injEq] at h ⊢; subst h; rfl
    · rename_i hc
      rw [if_neg hc]
      simp only [Option.bind_eq_some_iff] at h ⊢
      obtain ⟨hx, hhx, h⟩ := h
      exact ⟨hx, hhx, fval_some h⟩
  case h_28 => simp at h
  all_goals
    simp only [Option.bind_eq_some_iff, fev_ok] at h ⊢
    obtain ⟨x, hx, y, hy, z, hz, h⟩ := h
    refine ⟨x, hx, y, hy, z, hz, ?_⟩
    split at h
    · rename_i s' hs
      simp only [Option.some.injEq] at h; subst h
      rw [fMapUpdate_ok hs]; rfl
    · simp at h

end
end Go.W
