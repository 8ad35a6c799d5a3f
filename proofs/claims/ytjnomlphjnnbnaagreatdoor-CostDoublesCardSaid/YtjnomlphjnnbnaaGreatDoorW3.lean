/- The tables that the evaluator reads are the program's; constants and operands. Conditions: none. -/
import Derived.Test.YtjnomlphjnnbnaaGreatDoorW2
import Derived.Laws.Entries
import Derived.Laws.Cells
set_option linter.unusedVariables false
namespace Go.W
open Go.RowKit (Below)

def KdOk (k : TK) (u : TypeDesc) : Prop := match k with
  | .scal k => u = .int k
  | .bool => u = .bool
  | .str => u = .string
  | .ptr e => u = .pointer e
  | .slice e => u = .slice e
  | .array n e => u = .array n e
  | .map k e => u = .map k e
  | .struct fs => ∃ fields : Array Field, u = .struct fields ∧ fields.toList.map (fun f => (f.offset, f.type)) = fs
  | .func => ∃ a b c, u = .func a b c

structure TyOk (P : Program) (t : TypeId) (d : TD) : Prop where
  mk ::
  info : ∃ i zv, P.info? t = some i ∧ i.size = d.size ∧ i.bytes = d.bytes ∧ i.zero = some zv ∧ absCs zv.cells.toList = some d.zero ∧ d.zero.length = d.size ∧ (d.kd.isAgg = true → ∃ cs, zv = .agg cs) ∧ (d.kd.isAgg = false → zv.oneCell' = true)
  und : ∃ u, P.underlying t = some u ∧ KdOk d.kd u

structure COk (C : Ctx) : Prop where
  mixed : C.P.follows .mixedOrders = true
  ty : ∀ t d, C.D t = some d → TyOk C.P t d
  eq : ∀ t, C.eqs t = true → ∀ (E : Env) (w : World) (op : BinOp) (x y : Operand) (a b : List AV) (vs us : List Value) (r : Bool), (op = .eql ∨ op = .neq) → Reps E w a vs → Reps E w b us → sameCells a b = some r →
    (do eqGuard op t x y (.agg vs.toArray) (.agg us.toArray); Op.equal t (.agg vs.toArray) (.agg us.toArray) : Sem Bool).run C.P w = .ok r w
  ext : ∀ f h, C.ext f = some h → ∀ (E : Env) (w : World) (args : List AV) (vs : List Value) (v : AV), Reps E w args vs → h args = some v → ∃ v', (callFunc f vs.toArray).run C.P w = .ok (.value v') w ∧ Rep E w v v'
  fn : ∀ f fn, C.F f = some fn → C.P.funcs[f]? = some fn ∧ fn.body.isSome = true ∧ (fn.name == "runtime.NumGoroutine") = false

mutual
theorem absC_rep (E : Env) (w : World) : ∀ (v : Value) (a : AV), absC v = some a → Rep E w a v
  | .bool b, a, h => by simp [absC] at h; subst h; exact .bool b
  | .int k n, a, h => by simp [absC] at h; subst h; exact .int k n
  | .string s, a, h => by simp [absC] at h; subst h; exact .str s.data.toList
  | .pointer none, a, h => by simp [absC] at h; subst h; exact .nilp
  | .pointer (some _), a, h => by simp [absC] at h
  | .slice none 0 0, a, h => by
    simp [absC] at h; subst h
    exact .list [] .nil none 0 ⟨0, 0, none⟩ 0 (fun _ _ => undef) (by simp) (by simp) rfl (by simp) (by simp) (by simp) ⟨rfl, rfl⟩
  | .slice none (n + 1) c, a, h => by simp [absC] at h
  | .slice none 0 (c + 1), a, h => by simp [absC] at h
  | .slice (some _) n c, a, h => by simp [absC] at h
  | .map none, a, h => by simp [absC] at h; subst h; exact .nilm
  | .map (some _), a, h => by simp [absC] at h
  | .nilFunc, a, h => by simp [absC] at h; subst h; exact .nilf
  | .nilIface, a, h => by simp [absC] at h; subst h; exact .nili
  | .agg ⟨cs⟩, a, h => by
    simp only [absC, Option.map_eq_some_iff] at h
    obtain ⟨l, hl, rfl⟩ := h
    have := absCs_rep E w cs l hl
    exact .agg l cs this.1 this.2
  | .float _ _, a, h => by simp [absC] at h
  | .complex _ _ _, a, h => by simp [absC] at h
  | .chan _, a, h => by simp [absC] at h
  | .func _ _ _, a, h => by simp [absC] at h
  | .iface _ _, a, h => by simp [absC] at h
  | .tuple _, a, h => by simp [absC] at h
theorem absCs_rep (E : Env) (w : World) : ∀ (vs : List Value) (as : List AV), absCs vs = some as → Reps E w as vs
  | [], as, h => by simp [absCs] at h; subst h; exact Reps.nil E w
  | v :: vs, as, h => by
    simp only [absCs] at h
    split at h
    · rename_i a l h1 h2
      simp at h; subst h
      exact Reps.cons (absC_rep E w v a h1) (absCs_rep E w vs l h2)
    · simp at h
end

section
variable {C : Ctx} {B : Nat} {w0 : World} {E : Env} {σ : AS} {w : World} {t : T} {a : Act}

theorem ev_rep (W : WRel C B w0 E σ w) (HT : TRel E w t a.tmps) {x : Operand} {v : AV} (h : ev C t x = some v) : Rep E w v (a.eval x) := by
  cases x with
  | tmp k => simp [ev] at h; subst h; exact HT.2 k
  | const c => exact absC_rep E w c v h
  | global g =>
    simp only [ev, Option.map_eq_some_iff] at h
    obtain ⟨cs, hc, rfl⟩ := h
    exact W.glob g cs hc
  | func f => simp [ev] at h; subst h; exact .fn f [] [] [] [] rfl rfl (by simp) (by simp)

theorem evs_rep (W : WRel C B w0 E σ w) (HT : TRel E w t a.tmps) : ∀ (xs : List Operand) (vs : List AV), evs C t xs = some vs → Reps E w vs (xs.map a.eval)
  | [], vs, h => by simp [evs] at h; subst h; exact Reps.nil E w
  | x :: xs, vs, h => by
    simp only [evs] at h
    split at h
    · rename_i a l h1 h2
      simp at h; subst h
      exact Reps.cons (ev_rep W HT h1) (evs_rep W HT xs l h2)
    · simp at h

theorem evParts_rep (W : WRel C B w0 E σ w) (HT : TRel E w t a.tmps) : ∀ (xs : List (Nat × Operand)) (vs : List (Nat × AV)), evParts C t xs = some vs →
    vs.map (·.1) = xs.map (·.1) ∧ Reps E w (vs.map (·.2)) (xs.map fun x => a.eval x.2)
  | [], vs, h => by simp [evParts] at h; subst h; exact ⟨rfl, Reps.nil E w⟩
  | (i, x) :: xs, vs, h => by
    simp only [evParts] at h
    split at h
    · rename_i a l h1 h2
      simp at h; subst h
      have := evParts_rep W HT xs l h2
      exact ⟨by simp [this.1], Reps.cons (ev_rep W HT h1) this.2⟩
    · simp at h
end

theorem add_at (b o i : Nat) : (⟨b, o, none⟩ : Addr).add i = ⟨b, o + i, none⟩ := by unfold Addr.add; split <;> simp_all
theorem addr_eta {ad : Addr} (h : ad.spot = none) : ad = ⟨ad.block, ad.off, none⟩ := by cases ad; simp_all

/-! Cells of a value. -/
theorem oneCell_of {E : Env} {w : World} {a : AV} {v : Value} (h : Rep E w a v) (hc : a.isCell = true) : v.oneCell' = true := by
  cases h <;> first | rfl | simp [AV.isCell] at hc
theorem cellsOf_rep {E : Env} {w : World} {a : AV} {v : Value} {l : List AV} (h : Rep E w a v) (hl : cellsOf a = some l) : Reps E w l v.cells.toList ∧ (∀ c ∈ l, c.isCell = true) := by
  cases a with
  | agg cs =>
    simp only [cellsOf] at hl
    split at hl
    · rename_i hall
      simp at hl; subst hl
      cases h with
      | agg _ vs hl h => exact ⟨⟨by simpa [Value.cells] using hl, by simpa [Value.cells] using h⟩, by simpa using hall⟩
    · simp at hl
  | undef => simp [cellsOf, AV.isCell] at hl
  | tup vs => simp [cellsOf, AV.isCell] at hl
  | _ =>
    simp [cellsOf, AV.isCell] at hl; subst hl
    have ho := oneCell_of h rfl
    have : v.cells = #[v] := by cases v <;> simp_all [Value.cells, Value.oneCell']
    rw [this]
    exact ⟨Reps.cons h (Reps.nil E w), by simp [AV.isCell]⟩
theorem Reps.oneCell {E : Env} {w : World} {l : List AV} {vs : List Value} (h : Reps E w l vs) (hc : ∀ c ∈ l, c.isCell = true) : ∀ v ∈ vs, v.oneCell' = true := by
  intro v hv
  obtain ⟨i, hi, rfl⟩ := List.getElem_of_mem hv
  have hi' : i < l.length := by rw [h.1]; exact hi
  exact oneCell_of (h.2 i l[i] vs[i] (by simp [hi']) (by simp [hi])) (hc _ (by simp))
theorem pure_isCell {a : AV} (h : a.pure = true) (hn : ∀ cs, a ≠ .agg cs) : a.isCell = true := by
  cases a <;> simp_all [AV.pure, AV.isCell]
end Go.W
