/- Rules for walking. Conditions: none. -/
import Derived.Test.YtjnomlphjnnbnaaGreatDoorW15
set_option linter.unusedVariables false
set_option linter.unusedSimpArgs false
namespace Go.W

def opsL (C : Ctx) (mq : Bool) (ops : Array Oper) (Q : T → AS → Prop) : List Oper → T → AS → Prop
  | [], t, σ => Q t σ
  | o :: r, t, σ => match wantedA ops t o with
      | none => False
      | some false => (match t.put o.dst (.tup []) with | some t' => opsL C mq ops Q r t' σ | none => False)
      | some true => match aOp C mq t σ o.op with
        | none => False
        | some (.val v σ') => (match t.put o.dst v with | some t' => opsL C mq ops Q r t' σ' | none => False)
        | some (.enter f args) => SCall C f args σ fun v σ' => (match t.put o.dst v with | some t' => opsL C mq ops Q r t' σ' | none => False)

theorem opsL_ok {C : Ctx} {mq : Bool} {ops : Array Oper} {Q : T → AS → Prop} : ∀ (k : Nat) (t : T) (σ : AS), k ≤ ops.size → opsL C mq ops Q (ops.toList.drop k) t σ → opsW C mq ops Q ((List.range ops.size).drop k) t σ := by
  intro k
  generalize hn : ops.size - k = n
  induction n generalizing k with
  | zero =>
    intro t σ hk h
    rw [List.drop_of_length_le (by simp; omega)] at h ⊢
    exact h
  | succ n ih =>
    intro t σ hk h
    have hlt : k < ops.size := by omega
    rw [List.drop_eq_getElem_cons (by simpa using hlt)] at h ⊢
    simp only [List.getElem_range, opsW, Array.getElem_toList, opsL, Array.getElem?_eq_getElem hlt] at h ⊢
    split <;> rename_i hw <;> simp only [hw] at h
    · split <;> rename_i hp <;> simp only [hp] at h
      exact ih (k + 1) (by omega) _ _ (by omega) h
    · split <;> rename_i ha <;> simp only [ha] at h
      · split <;> rename_i hp <;> simp only [hp] at h
        exact ih (k + 1) (by omega) _ _ (by omega) h
      · refine h.mono fun v σ' hq => ?_
        split <;> rename_i hp <;> simp only [hp] at hq
        exact ih (k + 1) (by omega) _ _ (by omega) hq

theorem wp_reg {C : Ctx} {f : FuncId} {id : Nat} {ops : Array Oper} {Q : Ex → T → AS → Prop} {t : T} {σ : AS} (h : opsL C (C.rows f id) ops (Drop (Q .normal)) ops.toList t σ) : wpA C f (.region id ops false) Q t σ := by
  simp only [wpA, Bool.false_eq_true, if_false]
  exact opsL_ok 0 t σ (Nat.zero_le _) (by simpa using h)

theorem wp_cond_b {C : Ctx} {f : FuncId} {c : Operand} {x y : Code} {Q : Ex → T → AS → Prop} {t : T} {σ : AS} {v : Bool} (hv : ev C t c = some (.bool v)) (h1 : v = true → wpA C f x Q t σ) (h2 : v = false → wpA C f y Q t σ) : wpA C f (.cond c x y) Q t σ := by
  simp only [wpA, hv]
  cases v
  · exact h2 rfl
  · exact h1 rfl

end Go.W
