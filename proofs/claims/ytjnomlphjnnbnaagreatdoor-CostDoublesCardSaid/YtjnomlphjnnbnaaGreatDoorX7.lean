/- A call that comes to a number, a bool or a text leaves every store as it was. Conditions: none. -/
import Derived.Test.YtjnomlphjnnbnaaGreatDoorW15
import Derived.Test.YtjnomlphjnnbnaaGreatDoorW12
set_option linter.unusedVariables false
set_option linter.unusedSimpArgs false
namespace Go.W
open Go.RowKit (Below)

mutual
/-- As it is read, with no name of an object; none: it has one. -/
def bareV : AV → Option AV
  | .bool b => some (.bool b)
  | .int k n => some (.int k n)
  | .str l => some (.str l)
  | .list es _ => (bareLL es).map fun es => .list es .no
  | .agg cs => (bareL cs).map .agg
  | .nilp => some .nilp
  | .nilm => some .nilm
  | .nilf => some .nilf
  | .nili => some .nili
  | _ => none
def bareL : List AV → Option (List AV)
  | [] => some []
  | a :: r => match bareV a, bareL r with | some x, some xs => some (x :: xs) | _, _ => none
def bareLL : List (List AV) → Option (List (List AV))
  | [] => some []
  | a :: r => match bareL a, bareLL r with | some x, some xs => some (x :: xs) | _, _ => none
end

theorem bareL_length : ∀ {l r : List AV}, bareL l = some r → r.length = l.length
  | [], r, h => by simp only [bareL, Option.some.injEq] at h; subst h; rfl
  | a :: l, r, h => by
    simp only [bareL] at h
    split at h
    · rename_i x xs hx hxs
      simp only [Option.some.injEq] at h; subst h
      simp [bareL_length hxs]
    · simp at h
theorem bareL_get : ∀ {l r : List AV}, bareL l = some r → ∀ (i : Nat) (b : AV), r[i]? = some b → ∃ a, l[i]? = some a ∧ bareV a = some b
  | [], r, h, i, b, hb => by simp only [bareL, Option.some.injEq] at h; subst h; simp at hb
  | a :: l, r, h, i, b, hb => by
    simp only [bareL] at h
    split at h
    · rename_i x xs hx hxs
      simp only [Option.some.injEq] at h; subst h
      cases i with
      | zero => simp at hb; subst hb; exact ⟨a, rfl, hx⟩
      | succ i => simp at hb; simpa using bareL_get hxs i b hb
    · simp at h
theorem bareLL_length : ∀ {l r : List (List AV)}, bareLL l = some r → r.length = l.length
  | [], r, h => by simp only [bareLL, Option.some.injEq] at h; subst h; rfl
  | a :: l, r, h => by
    simp only [bareLL] at h
    split at h
    · rename_i x xs hx hxs
      simp only [Option.some.injEq] at h; subst h
      simp [bareLL_length hxs]
    · simp at h
theorem bareLL_get : ∀ {l r : List (List AV)}, bareLL l = some r → ∀ (i : Nat) (b : List AV), r[i]? = some b → ∃ a, l[i]? = some a ∧ bareL a = some b
  | [], r, h, i, b, hb => by simp only [bareLL, Option.some.injEq] at h; subst h; simp at hb
  | a :: l, r, h, i, b, hb => by
    simp only [bareLL] at h
    split at h
    · rename_i x xs hx hxs
      simp only [Option.some.injEq] at h; subst h
      cases i with
      | zero => simp at hb; subst hb; exact ⟨a, rfl, hx⟩
      | succ i => simp at hb; simpa using bareLL_get hxs i b hb
    · simp at h

/-- The same environment without names. -/
def Env.bare (E : Env) : Env := ⟨fun _ => none, E.I⟩

theorem bareV_pure {a b : AV} (h : bareV a = some b) (hp : a.pure = true) : b.pure = true := by
  cases a <;> simp only [bareV, reduceCtorEq, Option.some.injEq, Option.map_eq_some_iff] at h
  case list es t => obtain ⟨_, _, rfl⟩ := h; rfl
  case agg cs => simp [AV.pure] at hp
  all_goals subst h; rfl

theorem Rep.bare {E : Env} {w : World} {a : AV} {v : Value} (h : Rep E w a v) : ∀ b, bareV a = some b → Rep E.bare w b v := by
  induction h with
  | undef v => intro b hb; simp [bareV] at hb
  | bool x => intro b hb; simp only [bareV, Option.some.injEq] at hb; subst hb; exact .bool x
  | int k n => intro b hb; simp only [bareV, Option.some.injEq] at hb; subst hb; exact .int k n
  | str l => intro b hb; simp only [bareV, Option.some.injEq] at hb; subst hb; exact .str l
  | list es t A cap ad sz vs hc hA hs hsz hcell hrep ht ih =>
    intro b hb
    simp only [bareV, Option.map_eq_some_iff] at hb
    obtain ⟨es', hes, rfl⟩ := hb
    have hl := bareLL_length hes
    have key : ∀ (i : Nat) (e' : List AV), es'[i]? = some e' → ∃ e, es[i]? = some e ∧ bareL e = some e' := bareLL_get hes
    rw [← hl]
    refine .list es' .no A cap ad sz vs (by omega) (fun hne => hA (by rintro rfl; simp at hl; exact hne hl)) hs ?_ ?_ ?_ trivial
    · intro i e' he'
      obtain ⟨e, he, hee⟩ := key i e' he'
      rw [bareL_length hee]; exact hsz i e he
    · intro i e' j c' he' hc'
      obtain ⟨e, he, hee⟩ := key i e' he'
      obtain ⟨c, hc, hcc⟩ := bareL_get hee j c' hc'
      obtain ⟨h1, h2, h3⟩ := hcell i e j c he hc
      exact ⟨h1, h2, bareV_pure hcc h3⟩
    · intro i e' j c' he' hc'
      obtain ⟨e, he, hee⟩ := key i e' he'
      obtain ⟨c, hc, hcc⟩ := bareL_get hee j c' hc'
      exact ih i e j c he hc c' hcc
  | sl id off n cap ad L hL hc hA => intro b hb; simp [bareV] at hb
  | nilp => intro b hb; simp only [bareV, Option.some.injEq] at hb; subst hb; exact .nilp
  | ptr id i off L hL => intro b hb; simp [bareV] at hb
  | pp es i off b o sz vs hsz hcell hrep ih => intro b hb; simp [bareV] at hb
  | map id L hL => intro b hb; simp [bareV] at hb
  | nilm => intro b hb; simp only [bareV, Option.some.injEq] at hb; subst hb; exact .nilm
  | fn f first cap as bs ha hb h1 h2 i1 i2 => intro b hb; simp [bareV] at hb
  | nilf => intro b hb; simp only [bareV, Option.some.injEq] at hb; subst hb; exact .nilf
  | nili => intro b hb; simp only [bareV, Option.some.injEq] at hb; subst hb; exact .nili
  | agg cs vs hl h ih =>
    intro b hb
    simp only [bareV, Option.map_eq_some_iff] at hb
    obtain ⟨cs', hcs, rfl⟩ := hb
    refine .agg cs' vs (by rw [bareL_length hcs]; exact hl) fun i c' v hc' hv => ?_
    obtain ⟨c, hc, hcc⟩ := bareL_get hcs i c' hc'
    exact ih i c v hc hv c' hcc
  | tup cs vs hl h ih => intro b hb; simp [bareV] at hb

/-- No memory is told of. -/
def AV.scalar : AV → Bool
  | .bool _ | .int _ _ | .str _ => true
  | _ => false
theorem Rep.scalar {E E' : Env} {w w' : World} {a : AV} {v : Value} (hs : a.scalar = true) (h : Rep E w a v) : Rep E' w' a v := by
  cases h <;> simp [AV.scalar] at hs
  · exact .bool _
  · exact .int _ _
  · exact .str _

theorem glob_bare {E : Env} {w : World} {cs : List AV} {v : Value} (hcs : bareL cs = some cs) (h : Rep E w (.pp [cs] 0 0) v) : Rep E.bare w (.pp [cs] 0 0) v := by
  cases h with
  | pp _ _ _ b o sz vs hsz hcell hrep =>
    refine .pp [cs] 0 0 b o sz vs hsz hcell fun i e j c he hj => ?_
    refine (hrep i e j c he hj).bare c ?_
    cases i with
    | zero =>
      simp at he; subst he
      obtain ⟨a, ha, hb⟩ := bareL_get hcs j c hj
      rw [hj] at ha
      obtain rfl := Option.some.inj ha
      exact hb
    | succ i => simp at he

/-- A call that comes to a scalar, whatever store there is: the store is as it was. -/
theorem SCall.frame {C : Ctx} (hG : ∀ g cs, C.G g = some cs → bareL cs = some cs) {f : FuncId} {args args' : List AV} {σ : AS} {r : AV} (h : SCall C f args' [] fun v _ => v = r) (hr : r.scalar = true) (ha : bareL args = some args') :
    SCall C f args σ fun v σ' => v = r ∧ σ' = σ := by
  intro B w0 E w vs W hargs
  have W1 : WRel C w.heap.size w E.bare [] w := ⟨Below.refl _ _, Nat.le_refl _, W.imm, fun id o h => by simp at h, fun i j o o' L L' h => by simp at h, fun _ _ => rfl, fun g cs hg => glob_bare (hG g cs hg) (W.glob g cs hg)⟩
  have hargs1 : Reps E.bare w args' vs := ⟨by rw [bareL_length ha]; exact hargs.1, fun i a v h1 h2 => by
    obtain ⟨x, hx, hxa⟩ := bareL_get ha i a h1
    exact (hargs.2 i x v hx h2).bare a hxa⟩
  refine (h w.heap.size w E.bare w vs W1 hargs1).mono fun e w' hq => ?_
  obtain ⟨v, σ', E', v', rfl, rfl, W', x', hrep⟩ := hq
  have hb := W'.below
  have x : Ext E w E w' := ⟨fun _ _ h => h, fun _ _ h => h, fun b o hI => hb.cell (p := ⟨b, o, none⟩) (W.imm b o hI)⟩
  exact ⟨v, σ, E, v', rfl, ⟨rfl, rfl⟩, ⟨W.below.trans (hb.mono W.size), Nat.le_trans W.size hb.size, fun b o h => Nat.lt_of_lt_of_le (W.imm b o h) hb.size,
    fun id o ho => (W.obj id o ho).mono x (fun L hL ha => hb.block L.b (W.block_lt ho ha hL).1) (fun _ _ _ _ h => h), W.inj, W.fresh, fun g cs hg => (W.glob g cs hg).mono x⟩, x, hrep.scalar hr⟩

end Go.W
