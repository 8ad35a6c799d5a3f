/- Operators, conversions, slices of slices, lengths: what they do is what the evaluator says. Conditions: those of the abstract operation. -/
import Derived.Test.YtjnomlphjnnbnaaGreatDoorW4
set_option linter.unusedVariables false
namespace Go.W
open Go.RowKit (Below)

theorem bytesLess_eq : ∀ a b : List UInt8, Op.bytesLess a b = bytesLess a b
  | _, [] => by simp [Op.bytesLess, bytesLess]
  | [], _ :: _ => by simp [Op.bytesLess, bytesLess]
  | a :: x, b :: y => by simp [Op.bytesLess, bytesLess, bytesLess_eq x y]

section
variable {C : Ctx} {B : Nat} {w0 : World} {E : Env} {σ : AS} {w : World}

theorem binInt_ok (P : Program) (op : BinOp) (ty : TypeId) (k k' : IntKind) (a b : Int) {r : AV} (h : aBin op (.int k a) (.int k' b) = some r) :
    ∃ v', (binOp op ty (.int k a) (.int k' b)).run P w = .ok v' w ∧ Rep E w r v' := by
  unfold aBin at h
  by_cases hk : k = k'
  · subst hk
    cases op <;> simp only [if_true] at h
    case shl => split at h <;> simp at h; subst h; rename_i hb; exact ⟨_, by simp [binOp, Op.shift, hb], .int _ _⟩
    case shr => split at h <;> simp at h; subst h; rename_i hb; exact ⟨_, by simp [binOp, Op.shift, hb], .int _ _⟩
    case quo => split at h <;> simp at h; subst h; rename_i hb; exact ⟨_, by simp [binOp, Op.intDiv, hb], .int _ _⟩
    case rem => split at h <;> simp at h; subst h; rename_i hb; exact ⟨_, by simp [binOp, Op.intDiv, hb], .int _ _⟩
    case andNot => simp at h
    case add => simp at h; subst h; exact ⟨_, by simp [binOp, Op.intArith], .int _ _⟩
    case sub => simp at h; subst h; exact ⟨_, by simp [binOp, Op.intArith], .int _ _⟩
    case mul => simp at h; subst h; exact ⟨_, by simp [binOp, Op.intArith], .int _ _⟩
    case and => simp only [Option.some.injEq] at h; subst h; exact ⟨_, by simp only [binOp, ne_eq, not_true, if_false]; rfl, .int _ _⟩
    case or => simp only [Option.some.injEq] at h; subst h; exact ⟨_, by simp only [binOp, ne_eq, not_true, if_false]; rfl, .int _ _⟩
    case xor => simp only [Option.some.injEq] at h; subst h; exact ⟨_, by simp only [binOp, ne_eq, not_true, if_false]; rfl, .int _ _⟩
    all_goals simp at h; subst h; exact ⟨_, by simp [binOp, Op.intCmp], .bool _⟩
  · cases op <;> simp only [if_neg hk] at h
    case shl => split at h <;> simp at h; subst h; rename_i hb; exact ⟨_, by simp [binOp, Op.shift, hb], .int _ _⟩
    case shr => split at h <;> simp at h; subst h; rename_i hb; exact ⟨_, by simp [binOp, Op.shift, hb], .int _ _⟩
    all_goals simp at h

theorem binStr_ok (P : Program) (op : BinOp) (ty : TypeId) (a b : List UInt8) {r : AV} (h : aBin op (.str a) (.str b) = some r) :
    ∃ v', (binOp op ty (.string ⟨a.toArray⟩) (.string ⟨b.toArray⟩)).run P w = .ok v' w ∧ Rep E w r v' := by
  unfold aBin at h
  have hsz : ∀ l : List UInt8, (ByteArray.mk l.toArray).size = l.length := fun l => by simp [ByteArray.size]
  cases op <;> simp only at h
  case add =>
    split at h <;> simp at h; subst h
    rename_i hlt
    refine ⟨.string ⟨(a ++ b).toArray⟩, ?_, .str _⟩
    have h1 : ¬ ((((ByteArray.mk a.toArray).size + (ByteArray.mk b.toArray).size : Nat) : Int) > IntKind.i64.max) := by
      rw [hsz, hsz]; simp [IntKind.max, IntKind.signed, IntKind.bits]; omega
    have h2 : (ByteArray.mk a.toArray) ++ (ByteArray.mk b.toArray) = ⟨(a ++ b).toArray⟩ := by
      apply ByteArray.ext
      rw [ByteArray.data_append]
      simp
    simp only [binOp, Op.stringOp]
    rw [if_neg h1, h2]; rfl
  all_goals first
    | (simp at h; done)
    | (simp at h; subst h; exact ⟨_, by simp [binOp, Op.stringOp, bytesLess_eq], .bool _⟩)

theorem equal_one (ty : TypeId) (v u : Value) : Op.equal ty v u = Op.equalIn (9999 + 1) ty v u := rfl

theorem eqGuard_other (op : BinOp) (ty : TypeId) (x y : Operand) (a b : Value) (h1 : ∀ cs, a ≠ .agg cs) (h2 : a ≠ .nilIface) : eqGuard op ty x y a b = (pure () : Sem Unit) := by
  unfold eqGuard
  cases op <;> first | rfl | (cases a <;> first | rfl | exact absurd rfl h2 | exact absurd rfl (h1 _))

theorem isNil_ok {P : Program} {k : TK} {x y : AV} {b : Bool} {v u : Value} {ty : TypeId} {td : TypeDesc} (hu : P.underlying ty = some td) (hk : KdOk k td) (hx : Rep E w x v) (hy : Rep E w y u)
    (hc : isNilConst k y = true) (h : isNil k x = some b) : (Op.equal ty v u).run P w = .ok b w ∧ (∀ cs, v ≠ .agg cs) ∧ v ≠ .nilIface ∧
    (∀ op, op = .eql ∨ op = .neq → binOp op ty v u = (if op = .eql then (do pure (.bool (← Op.equal ty v u)) : Sem Value) else (do pure (.bool (!(← Op.equal ty v u)))))) := by
  have hun := run_underlying hu w
  unfold isNilConst at hc
  split at hc
  · rename_i e
    simp only [KdOk] at hk; subst hk
    cases hy
    unfold isNil at h
    split at h <;> simp at h <;> subst h <;> rename_i heq <;> simp at heq
    · cases hx; exact ⟨by rw [equal_one, Op.equalIn]; simp [hun], by simp, by simp, by rintro op (rfl | rfl) <;> rfl⟩
    · cases hx; exact ⟨by rw [equal_one, Op.equalIn]; simp [hun], by simp, by simp, by rintro op (rfl | rfl) <;> rfl⟩
    · cases hx; exact ⟨by rw [equal_one, Op.equalIn]; simp [hun], by simp, by simp, by rintro op (rfl | rfl) <;> rfl⟩
  · rename_i e
    simp only [KdOk] at hk; subst hk
    cases hy with
    | list _ _ A' cap' ad' sz' vs' hc' hA' hs' hsz' hcell' hrep' ht' =>
      obtain ⟨rfl, rfl⟩ := ht'
      unfold isNil at h
      split at h <;> simp at h <;> subst h <;> rename_i heq <;> simp at heq
      · cases hx with
        | list _ _ A cap ad sz vs hc hA hs hsz hcell hrep ht =>
          have := hA (by simp); subst this
          exact ⟨by rw [equal_one, Op.equalIn]; simp [hun], by simp, by simp, by rintro op (rfl | rfl) <;> rfl⟩
      · cases hx with
        | list _ _ A cap ad sz vs hc hA hs hsz hcell hrep ht =>
          obtain ⟨rfl, rfl⟩ := ht
          exact ⟨by rw [equal_one, Op.equalIn]; simp [hun], by simp, by simp, by rintro op (rfl | rfl) <;> rfl⟩
      · cases hx with
        | list _ _ A cap ad sz vs hc hA hs hsz hcell hrep ht =>
          obtain ⟨h1, h2⟩ := ht
          obtain ⟨A, rfl⟩ := Option.ne_none_iff_exists'.1 h1
          exact ⟨by rw [equal_one, Op.equalIn]; simp [hun], by simp, by simp, by rintro op (rfl | rfl) <;> rfl⟩
      · cases hx with
        | list _ _ A cap ad sz vs hc hA hs hsz hcell hrep ht =>
          obtain ⟨h1, h2⟩ := ht
          obtain ⟨A, rfl⟩ := Option.ne_none_iff_exists'.1 h1
          exact ⟨by rw [equal_one, Op.equalIn]; simp [hun], by simp, by simp, by rintro op (rfl | rfl) <;> rfl⟩
      · cases hx; exact ⟨by rw [equal_one, Op.equalIn]; simp [hun], by simp, by simp, by rintro op (rfl | rfl) <;> rfl⟩
  · obtain ⟨x1, x2, x3, rfl⟩ := hk
    cases hy
    unfold isNil at h
    split at h <;> simp at h <;> subst h <;> rename_i heq <;> simp at heq
    · cases hx; exact ⟨by rw [equal_one, Op.equalIn]; simp [hun], by simp, by simp, by rintro op (rfl | rfl) <;> rfl⟩
    · cases hx; exact ⟨by rw [equal_one, Op.equalIn]; simp [hun], by simp, by simp, by rintro op (rfl | rfl) <;> rfl⟩
  · simp at hc

theorem bin_ok (hC : COk C) {op : BinOp} {ty : TypeId} {ox oy : Operand} {x y r : AV} {v u : Value} (hx : Rep E w x v) (hy : Rep E w y u) (h : aBinT C op ty x y = some r) :
    ∃ v', ((do eqGuard op ty ox oy v u; binOp op ty v u : Sem Value)).run C.P w = .ok v' w ∧ Rep E w r v' := by
  simp only [aBinT, Option.bind_eq_some_iff] at h
  obtain ⟨d, hd, h⟩ := h
  obtain ⟨td, hu, hk⟩ := (hC.ty ty d hd).und
  have hun := run_underlying hu w
  split at h
  · split at h
    · rename_i k n
      cases hx
      have hy' : ∃ k' m, y = .int k' m := by
        unfold aBin at h; split at h <;> simp_all
      obtain ⟨k', m, rfl⟩ := hy'
      cases hy
      obtain ⟨v', hr, hrep⟩ := binInt_ok (E := E) (w := w) C.P op ty k k' n m h
      exact ⟨v', by rw [eqGuard_other _ _ _ _ _ _ (by simp) (by simp)]; simpa using hr, hrep⟩
    · simp at h
  · split at h
    · rename_i l
      cases hx
      have hy' : ∃ l', y = .str l' := by
        unfold aBin at h; split at h <;> simp_all
      obtain ⟨l', rfl⟩ := hy'
      cases hy
      obtain ⟨v', hr, hrep⟩ := binStr_ok (E := E) (w := w) C.P op ty l l' h
      exact ⟨v', by rw [eqGuard_other _ _ _ _ _ _ (by simp) (by simp)]; simpa using hr, hrep⟩
    · simp at h
  · rename_i hkd
    rw [hkd] at hk
    simp only [KdOk] at hk; subst hk
    split at h
    · rename_i b
      cases hx
      have hy' : ∃ l', y = .bool l' := by
        unfold aBin at h; split at h <;> simp_all
      obtain ⟨b', rfl⟩ := hy'
      cases hy
      rw [eqGuard_other _ _ _ _ _ _ (by simp) (by simp)]
      have he : (Op.equal ty (.bool b) (.bool b')).run C.P w = .ok (b == b') w := by rw [equal_one, Op.equalIn]; simp [hun]
      have h1 : binOp .eql ty (.bool b) (.bool b') = (do pure (.bool (← Op.equal ty (.bool b) (.bool b')))) := rfl
      have h2 : binOp .neq ty (.bool b) (.bool b') = (do pure (.bool (!(← Op.equal ty (.bool b) (.bool b'))))) := rfl
      unfold aBin at h
      cases op <;> simp only [reduceCtorEq, Option.some.injEq] at h <;> subst h
      · exact ⟨.bool (b == b'), by simp [h1, he], .bool _⟩
      · exact ⟨.bool (!(b == b')), by simp [h2, he], .bool _⟩
    · simp at h
  · rename_i fs hkd
    split at h
    · rename_i heq
      split at h
      · rename_i a b
        simp only [Option.map_eq_some_iff] at h
        obtain ⟨q, hq, rfl⟩ := h
        cases hx with
        | agg _ vs hl hv =>
          cases hy with
          | agg _ us hl' hv' =>
            have := hC.eq ty heq E w .eql ox oy a b vs us q (.inl rfl) ⟨hl, hv⟩ ⟨hl', hv'⟩ hq
            refine ⟨.bool q, ?_, .bool _⟩
            have hb : binOp .eql ty (.agg vs.toArray) (.agg us.toArray) = (do pure (.bool ((← Op.equal ty (.agg vs.toArray) (.agg us.toArray))))) := rfl
            rw [hb]
            simp only [Sem.run_bind] at this ⊢
            cases hg : (eqGuard .eql ty ox oy (.agg vs.toArray) (.agg us.toArray)).run C.P w with
            | halt x w1 => rw [hg] at this; simp at this
            | ok x w1 => rw [hg] at this; simp only [Result.andThen_ok] at this ⊢; rw [this]; simp
      · rename_i a b
        simp only [Option.map_eq_some_iff] at h
        obtain ⟨q, hq, rfl⟩ := h
        cases hx with
        | agg _ vs hl hv =>
          cases hy with
          | agg _ us hl' hv' =>
            have := hC.eq ty heq E w .neq ox oy a b vs us q (.inr rfl) ⟨hl, hv⟩ ⟨hl', hv'⟩ hq
            refine ⟨.bool (!q), ?_, .bool _⟩
            have hb : binOp .neq ty (.agg vs.toArray) (.agg us.toArray) = (do pure (.bool (!(← Op.equal ty (.agg vs.toArray) (.agg us.toArray))))) := rfl
            rw [hb]
            simp only [Sem.run_bind] at this ⊢
            cases hg : (eqGuard .neq ty ox oy (.agg vs.toArray) (.agg us.toArray)).run C.P w with
            | halt x w1 => rw [hg] at this; simp at this
            | ok x w1 => rw [hg] at this; simp only [Result.andThen_ok] at this ⊢; rw [this]; simp
      · simp at h
    · simp at h
  · split at h
    · rename_i hnc
      have key : ∀ b, isNil d.kd x = some b → (op = .eql ∨ op = .neq) → r = .bool (if op = .eql then b else !b) →
          ∃ v', ((do eqGuard op ty ox oy v u; binOp op ty v u : Sem Value)).run C.P w = .ok v' w ∧ Rep E w r v' := by
        intro b hb hop hr
        obtain ⟨h1, h2, h3, h4⟩ := isNil_ok hu hk hx hy hnc hb
        rw [eqGuard_other _ _ _ _ _ _ h2 h3, h4 op hop]
        subst hr
        rcases hop with rfl | rfl
        · exact ⟨.bool b, by simp [h1], .bool _⟩
        · exact ⟨.bool (!b), by simp [h1], .bool _⟩
      split at h
      · simp only [Option.map_eq_some_iff] at h
        obtain ⟨b, hb, rfl⟩ := h
        exact key b hb (.inl rfl) (by simp)
      · simp only [Option.map_eq_some_iff] at h
        obtain ⟨b, hb, rfl⟩ := h
        exact key b hb (.inr rfl) (by simp)
      · simp at h
    · simp at h

theorem un_ok (P : Program) {op : UnOp} {x r : AV} {v : Value} (hx : Rep E w x v) (h : aUn op x = some r) : ∃ v', (Op.unary op v).run P w = .ok v' w ∧ Rep E w r v' := by
  unfold aUn at h
  split at h <;> simp at h <;> subst h <;> cases hx
  · exact ⟨_, by simp [Op.unary, Op.intArith], .int _ _⟩
  · exact ⟨_, by simp [Op.unary], .bool _⟩

theorem extract_ok (P : Program) {x r : AV} {i : Nat} {v : Value} (hx : Rep E w x v) (h : aExtract x i = some r) : ∃ v', (Instr.extract v i).run P w = .ok v' w ∧ Rep E w r v' := by
  unfold aExtract at h
  split at h
  · cases hx with
    | tup _ vs hl hv =>
      have hi := (List.getElem?_eq_some_iff.1 h).1
      exact ⟨vs[i]'(by rw [← hl]; exact hi), by simp [Instr.extract, show i < vs.length by rw [← hl]; exact hi], hv i r _ h (by simp [show i < vs.length by rw [← hl]; exact hi])⟩
  · simp at h

end
end Go.W
