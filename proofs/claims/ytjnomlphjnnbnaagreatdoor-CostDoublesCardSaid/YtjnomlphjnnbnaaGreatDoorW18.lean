/- Functions without a body that are walked in one step. Conditions: none. -/
import Derived.Test.YtjnomlphjnnbnaaGreatDoorW3
import Derived.Laws.Externs
set_option linter.unusedVariables false
set_option linter.unusedSimpArgs false
namespace Go.W

def ExtOk (P : Program) (f : FuncId) (h : List AV → Option AV) : Prop := ∀ (E : Env) (w : World) (args : List AV) (vs : List Value) (v : AV), Reps E w args vs → h args = some v → ∃ v', (callFunc f vs.toArray).run P w = .ok (.value v') w ∧ Rep E w v v'

def xIndexByte : List AV → Option AV
  | [.str l, .int .u8 c] => some (.int .i64 (firstIdx ⟨l.toArray⟩ c.toNat.toUInt8))
  | _ => none

theorem xIndexByte_ok {P : Program} {f : FuncId} {fn : Func} (hf : P.funcs[f]? = some fn) (hname : (fn.name == "runtime.NumGoroutine") = false) (hb : fn.body.isNone = true) (hnext : Extern.findNext fn = none)
    (he : Extern.find fn = some Extern.BytealgIndexByte.indexByte) : ExtOk P f xIndexByte := by
  intro E w args vs v hr h
  unfold xIndexByte at h
  split at h
  · rename_i l c
    simp only [Option.some.injEq] at h; subst h
    match vs, hr with
    | [x, y], hr =>
      have h1 := hr.2 0 _ x rfl rfl
      have h2 := hr.2 1 _ y rfl rfl
      cases h1; cases h2
      exact ⟨_, by rw [run_callFunc_extern hf hname hb hnext he]; show (Sem.run P (Extern.BytealgIndexByte.indexByte #[_, _]) w).andThen _ = _; rw [run_indexByte_string]; rfl, .int _ _⟩
    | [], hr => have := hr.1; simp at this
    | [_], hr => have := hr.1; simp at this
    | _ :: _ :: _ :: _, hr => have := hr.1; simp at this
  · simp at h

def xSame : List AV → Option AV
  | [x] => some x
  | _ => none

theorem xSame_ok {P : Program} {f : FuncId} {fn : Func} (hf : P.funcs[f]? = some fn) (hname : (fn.name == "runtime.NumGoroutine") = false) (hb : fn.body.isNone = true) (hnext : Extern.findNext fn = none)
    (he : Extern.find fn = some Extern.AbiNoEscape.same) : ExtOk P f xSame := by
  intro E w args vs v hr h
  unfold xSame at h
  split at h
  · rename_i x
    simp only [Option.some.injEq] at h; subst h
    match vs, hr with
    | [y], hr =>
      have h1 := hr.2 0 _ y rfl rfl
      exact ⟨_, by rw [run_callFunc_extern hf hname hb hnext he]; rfl, h1⟩
    | [], hr => have := hr.1; simp at this
    | _ :: _ :: _, hr => have := hr.1; simp at this
  · simp at h

end Go.W
