/- What an abstract value and an abstract store say of a world. Conditions: none. -/
import Derived.Test.YtjnomlphjnnbnaaGreatDoorW1
import Derived.Below
import Derived.Laws.CopyRow
set_option linter.unusedVariables false
namespace Go.W
open Go.RowKit (Below)

structure Loc where
  b : Nat
  o : Nat
  sz : Nat
  u : Nat

structure Env where
  μ : Nat → Option Loc
  I : Nat → Nat → Prop

/-- Of the places behind a pure slice. 'o': where its first cell is. -/
def TailRep (E : Env) (t : Tail) (A : Option Addr) (n cap : Nat) (ad : Addr) (sz : Nat) : Prop := match t with
  | .no => True
  | .nil => A = none ∧ cap = 0
  | .full => A ≠ none ∧ cap = n
  | .tok id => A ≠ none ∧ (cap = n ∨ (A = some ad ∧ ∃ L, E.μ id = some L ∧ L.b = ad.block ∧ L.o = ad.off + n * sz ∧ L.sz = sz ∧ ad.off + cap * sz ≤ L.u))

inductive Rep (E : Env) (w : World) : AV → Value → Prop
  | undef (v : Value) : Rep E w .undef v
  | bool (b : Bool) : Rep E w (.bool b) (.bool b)
  | int (k : IntKind) (n : Int) : Rep E w (.int k n) (.int k n)
  | str (l : List UInt8) : Rep E w (.str l) (.string ⟨l.toArray⟩)
  | list (es : List (List AV)) (t : Tail) (A : Option Addr) (cap : Nat) (ad : Addr) (sz : Nat) (vs : Nat → Nat → Value)
      (hc : es.length ≤ cap) (hA : es ≠ [] → A = some ad) (hs : ad.spot = none)
      (hsz : ∀ (i : Nat) (e : List AV), es[i]? = some e → e.length = sz)
      (hcell : ∀ (i : Nat) (e : List AV) (j : Nat) (c : AV), es[i]? = some e → e[j]? = some c → E.I ad.block (ad.off + i * sz + j) ∧ w.cell? ⟨ad.block, ad.off + i * sz + j, none⟩ = some (vs i j) ∧ c.pure = true)
      (hrep : ∀ (i : Nat) (e : List AV) (j : Nat) (c : AV), es[i]? = some e → e[j]? = some c → Rep E w c (vs i j))
      (ht : TailRep E t A es.length cap ad sz) : Rep E w (.list es t) (.slice A es.length cap)
  | sl (id off n cap : Nat) (ad : Addr) (L : Loc) (hL : E.μ id = some L) (hc : n ≤ cap)
      (hA : cap = 0 ∨ (ad = ⟨L.b, L.o + off * L.sz, none⟩ ∧ L.o + (off + cap) * L.sz ≤ L.u)) : Rep E w (.sl id off n) (.slice (some ad) n cap)
  | nilp : Rep E w .nilp (.pointer none)
  | ptr (id i off : Nat) (L : Loc) (hL : E.μ id = some L) : Rep E w (.ptr id i off) (.pointer (some ⟨L.b, L.o + i * L.sz + off, none⟩))
  | pp (es : List (List AV)) (i off : Nat) (b o sz : Nat) (vs : Nat → Nat → Value)
      (hsz : ∀ (i : Nat) (e : List AV), es[i]? = some e → e.length = sz)
      (hcell : ∀ (i : Nat) (e : List AV) (j : Nat) (c : AV), es[i]? = some e → e[j]? = some c → E.I b (o + i * sz + j) ∧ w.cell? ⟨b, o + i * sz + j, none⟩ = some (vs i j) ∧ c.pure = true)
      (hrep : ∀ (i : Nat) (e : List AV) (j : Nat) (c : AV), es[i]? = some e → e[j]? = some c → Rep E w c (vs i j)) : Rep E w (.pp es i off) (.pointer (some ⟨b, o + i * sz + off, none⟩))
  | map (id : Nat) (L : Loc) (hL : E.μ id = some L) : Rep E w (.map id) (.map (some L.b))
  | nilm : Rep E w .nilm (.map none)
  | fn (f : FuncId) (first cap : List AV) (as bs : List Value) (ha : first.length = as.length) (hb : cap.length = bs.length)
      (h1 : ∀ (i : Nat) a v, first[i]? = some a → as[i]? = some v → Rep E w a v) (h2 : ∀ (i : Nat) a v, cap[i]? = some a → bs[i]? = some v → Rep E w a v) : Rep E w (.fn f first cap) (.func (.func f) as.toArray bs.toArray)
  | nilf : Rep E w .nilf .nilFunc
  | nili : Rep E w .nili .nilIface
  | agg (cs : List AV) (vs : List Value) (hl : cs.length = vs.length) (h : ∀ (i : Nat) a v, cs[i]? = some a → vs[i]? = some v → Rep E w a v) : Rep E w (.agg cs) (.agg vs.toArray)
  | tup (cs : List AV) (vs : List Value) (hl : cs.length = vs.length) (h : ∀ (i : Nat) a v, cs[i]? = some a → vs[i]? = some v → Rep E w a v) : Rep E w (.tup cs) (.tuple vs.toArray)

/-- Lists of values, one behind the other. -/
def Reps (E : Env) (w : World) (as : List AV) (vs : List Value) : Prop := as.length = vs.length ∧ ∀ (i : Nat) a v, as[i]? = some a → vs[i]? = some v → Rep E w a v

/-- What was known stays known. -/
structure Ext (E : Env) (w : World) (E' : Env) (w' : World) : Prop where
  μ : ∀ id L, E.μ id = some L → E'.μ id = some L
  I : ∀ b o, E.I b o → E'.I b o
  keep : ∀ b o, E.I b o → w'.cell? ⟨b, o, none⟩ = w.cell? ⟨b, o, none⟩

theorem Ext.refl (E : Env) (w : World) : Ext E w E w := ⟨fun _ _ h => h, fun _ _ h => h, fun _ _ _ => rfl⟩
theorem Ext.trans {E E' E'' : Env} {w w' w'' : World} (h : Ext E w E' w') (k : Ext E' w' E'' w'') : Ext E w E'' w'' :=
  ⟨fun _ _ x => k.μ _ _ (h.μ _ _ x), fun _ _ x => k.I _ _ (h.I _ _ x), fun _ _ x => (k.keep _ _ (h.I _ _ x)).trans (h.keep _ _ x)⟩

theorem TailRep.mono {E E' : Env} {t : Tail} {A : Option Addr} {n cap : Nat} {ad : Addr} {sz : Nat} (hμ : ∀ id L, E.μ id = some L → E'.μ id = some L)
    (h : TailRep E t A n cap ad sz) : TailRep E' t A n cap ad sz := by
  cases t with
  | tok id => exact ⟨h.1, h.2.imp _root_.id fun ⟨ha, L, hL, r⟩ => ⟨ha, L, hμ _ _ hL, r⟩⟩
  | _ => exact h

theorem Rep.mono {E E' : Env} {w w' : World} (x : Ext E w E' w') {a : AV} {v : Value} (h : Rep E w a v) : Rep E' w' a v := by
  induction h with
  | undef v => exact .undef v
  | bool b => exact .bool b
  | int k n => exact .int k n
  | str l => exact .str l
  | list es t A cap ad sz vs hc hA hs hsz hcell hrep ht ih =>
    exact .list es t A cap ad sz vs hc hA hs hsz (fun i e j c h1 h2 => ⟨x.I _ _ (hcell i e j c h1 h2).1, (x.keep _ _ (hcell i e j c h1 h2).1).trans (hcell i e j c h1 h2).2.1, (hcell i e j c h1 h2).2.2⟩) ih (ht.mono x.μ)
  | sl id off n cap ad L hL hc hA => exact .sl id off n cap ad L (x.μ _ _ hL) hc hA
  | nilp => exact .nilp
  | ptr id i off L hL => exact .ptr id i off L (x.μ _ _ hL)
  | pp es i off b o sz vs hsz hcell hrep ih =>
    exact .pp es i off b o sz vs hsz (fun i e j c h1 h2 => ⟨x.I _ _ (hcell i e j c h1 h2).1, (x.keep _ _ (hcell i e j c h1 h2).1).trans (hcell i e j c h1 h2).2.1, (hcell i e j c h1 h2).2.2⟩) ih
  | map id L hL => exact .map id L (x.μ _ _ hL)
  | nilm => exact .nilm
  | fn f first cap as bs ha hb h1 h2 i1 i2 => exact .fn f first cap as bs ha hb i1 i2
  | nilf => exact .nilf
  | nili => exact .nili
  | agg cs vs hl h ih => exact .agg cs vs hl ih
  | tup cs vs hl h ih => exact .tup cs vs hl ih

theorem Reps.mono {E E' : Env} {w w' : World} (x : Ext E w E' w') {as : List AV} {vs : List Value} (h : Reps E w as vs) : Reps E' w' as vs := ⟨h.1, fun i a v h1 h2 => (h.2 i a v h1 h2).mono x⟩
theorem Reps.nil (E : Env) (w : World) : Reps E w [] [] := ⟨rfl, fun i a v h => by simp at h⟩
theorem Reps.cons {E : Env} {w : World} {a : AV} {v : Value} {as : List AV} {vs : List Value} (h : Rep E w a v) (k : Reps E w as vs) : Reps E w (a :: as) (v :: vs) :=
  ⟨by simp [k.1], fun i x y h1 h2 => by
    cases i with
    | zero => simp at h1 h2; subst h1 h2; exact h
    | succ i => simp at h1 h2; exact k.2 i x y h1 h2⟩
theorem Reps.append {E : Env} {w : World} {as bs : List AV} {vs us : List Value} (h : Reps E w as vs) (k : Reps E w bs us) : Reps E w (as ++ bs) (vs ++ us) := by
  refine ⟨by simp [h.1, k.1], fun i x y h1 h2 => ?_⟩
  by_cases hi : i < as.length
  · rw [List.getElem?_append_left hi] at h1
    rw [List.getElem?_append_left (by have := h.1; omega)] at h2
    exact h.2 i x y h1 h2
  · rw [List.getElem?_append_right (by omega)] at h1
    rw [List.getElem?_append_right (by have := h.1; omega)] at h2
    exact k.2 (i - as.length) x y h1 (by rw [h.1]; exact h2)

/-- An object of the store, and its block. -/
def ObjRel (E : Env) (w : World) (B : Nat) (id : Nat) : AObj → Prop
  | .row es => ∃ L c e, E.μ id = some L ∧ B ≤ L.b ∧ w.heap[L.b]? = some (.cells c e (0, 0)) ∧ (∀ (i : Nat) (g : List AV), es[i]? = some g → g.length = L.sz) ∧ L.o + es.length * L.sz ≤ c.size ∧ L.u ≤ c.size ∧
      (∀ (i : Nat) (g : List AV) (j : Nat) (a : AV), es[i]? = some g → g[j]? = some a → ∃ v, c[L.o + i * L.sz + j]? = some v ∧ Rep E w a v) ∧ (∀ o, ¬ E.I L.b o)
  | .ro es => ∃ L, E.μ id = some L ∧ (∀ (i : Nat) (g : List AV), es[i]? = some g → g.length = L.sz) ∧
      (∀ (i : Nat) (g : List AV) (j : Nat) (a : AV), es[i]? = some g → g[j]? = some a → E.I L.b (L.o + i * L.sz + j) ∧ a.pure = true ∧ ∃ v, w.cell? ⟨L.b, L.o + i * L.sz + j, none⟩ = some v ∧ Rep E w a v)
  | .tok sz => ∃ L c e, E.μ id = some L ∧ L.sz = sz ∧ B ≤ L.b ∧ w.heap[L.b]? = some (.cells c e (0, 0)) ∧ L.u ≤ c.size ∧ (∀ o, L.o ≤ o → ¬ E.I L.b o)
  | .map es => ∃ L ms clock, E.μ id = some L ∧ B ≤ L.b ∧ w.heap[L.b]? = some (.map ms clock) ∧ ms.size = es.length ∧
      (∀ (i : Nat) (k a : AV) (m : MapEntry), es[i]? = some (k, a) → ms[i]? = some m → Rep E w k m.key ∧ Rep E w a m.val)
  | .dead => True

def alive : AObj → Bool
  | .row _ | .tok _ | .map _ => true
  | _ => false

structure WRel (C : Ctx) (B : Nat) (w0 : World) (E : Env) (σ : AS) (w : World) : Prop where
  below : Below B w0 w
  size : B ≤ w.heap.size
  imm : ∀ b o, E.I b o → b < w.heap.size
  obj : ∀ id o, σ[id]? = some o → ObjRel E w B id o
  inj : ∀ id id' o o' L L', σ[id]? = some o → σ[id']? = some o' → alive o = true → alive o' = true → E.μ id = some L → E.μ id' = some L' → L.b = L'.b → id = id'
  fresh : ∀ id, σ.length ≤ id → E.μ id = none
  glob : ∀ g cs, C.G g = some cs → Rep E w (.pp [cs] 0 0) (.pointer (some ⟨g, 0, none⟩))

/-- The slots. -/
def TRel (E : Env) (w : World) (t : T) (arr : Array Value) : Prop := t.n = arr.size ∧ ∀ k, Rep E w (t.get k) (arr.getD k undef)

theorem TRel.mono {E E' : Env} {w w' : World} (x : Ext E w E' w') {t : T} {arr : Array Value} (h : TRel E w t arr) : TRel E' w' t arr := ⟨h.1, fun k => (h.2 k).mono x⟩

end Go.W
