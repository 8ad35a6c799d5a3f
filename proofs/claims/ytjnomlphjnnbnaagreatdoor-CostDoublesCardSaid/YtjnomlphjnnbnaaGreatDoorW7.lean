/- Lengths, least and greatest, structs built: what they do is what the evaluator says. Conditions: those of the abstract operation. -/
import Derived.Test.YtjnomlphjnnbnaaGreatDoorW6
set_option linter.unusedVariables false
namespace Go.W
open Go.RowKit (Below)

section
variable {C : Ctx} {B : Nat} {w0 : World} {E : Env} {σ : AS} {w : World}

theorem len_ok (hC : COk C) {ty rt : TypeId} {x : AV} {v : Value} {n : Nat} (hx : Rep E w x v) (h : aLen C ty x = some n) :
    (Builtin.len_ #[ty] rt #[v]).run C.P w = .ok (.int .i64 n) w := by
  unfold aLen at h
  split at h
  · rename_i hk
    obtain ⟨u, hu, hk⟩ := kindOf_ok hC hk
    simp only [KdOk] at hk; subst hk
    split at h <;> simp at h; subst h
    cases hx
    rename_i l
    have hs : (ByteArray.mk l.toArray).size = l.length := by simp [ByteArray.size]
    simp [Builtin.len_, run_underlying hu, goInt, hs]
  · rename_i e hk
    obtain ⟨u, hu, hk⟩ := kindOf_ok hC hk
    simp only [KdOk] at hk; subst hk
    split at h <;> simp at h <;> subst h <;> cases hx <;> simp [Builtin.len_, run_underlying hu, goInt]
  · simp at h

theorem cap_ok (hC : COk C) {ty rt : TypeId} {x : AV} {v : Value} {n : Nat} (hx : Rep E w x v) (h : aCap C ty x = some n) :
    (Builtin.cap_ #[ty] rt #[v]).run C.P w = .ok (.int .i64 n) w := by
  unfold aCap at h
  split at h
  · rename_i e hk
    obtain ⟨u, hu, hk⟩ := kindOf_ok hC hk
    simp only [KdOk] at hk; subst hk
    split at h <;> simp at h <;> subst h
    · cases hx with
      | list _ _ A cap ad sz vs hc hA hs hsz hcell hrep ht =>
        obtain ⟨rfl, rfl⟩ := ht
        simp [Builtin.cap_, run_underlying hu, goInt]
    · cases hx with
      | list _ _ A cap ad sz vs hc hA hs hsz hcell hrep ht =>
        obtain ⟨h1, rfl⟩ := ht
        simp [Builtin.cap_, run_underlying hu, goInt]
  · simp at h

theorem ints2_rep : ∀ {l : List AV} {vs : List Value} {k : IntKind} {a : Int} {r : List Int}, Reps E w l vs → ints2 l = some (k, a, r) → vs = (a :: r).map (Value.int k)
  | [], vs, k, a, r, _, h => by simp [ints2] at h
  | [x], vs, k, a, r, hr, h => by
    cases x <;> simp [ints2] at h
    obtain ⟨rfl, rfl, rfl⟩ := h
    match vs, hr with
    | [v], hr => have := hr.2 0 _ v rfl rfl; cases this; rfl
    | [], hr => have := hr.1; simp at this
    | _ :: _ :: _, hr => have := hr.1; simp at this
  | x :: y :: rest, vs, k, a, r, hr, h => by
    cases x <;> simp only [ints2, Option.bind_eq_some_iff, reduceCtorEq] at h
    obtain ⟨⟨k', b, l⟩, h1, h2⟩ := h
    split at h2
    · rename_i hk
      simp at h2
      obtain ⟨rfl, rfl, rfl⟩ := h2
      match vs, hr with
      | [], hr => have := hr.1; simp at this
      | v :: vs, hr =>
        have h0 := hr.2 0 _ v rfl rfl
        cases h0
        have hrest : Reps E w (y :: rest) vs := ⟨by have := hr.1; simp at this ⊢; exact this, fun i a u h1 h2 => hr.2 (i + 1) a u (by simpa using h1) (by simpa using h2)⟩
        have := ints2_rep hrest h1
        subst hk
        simp [this]
    · simp at h2

theorem min_run (P : Program) (k : IntKind) (tys : Array TypeId) (rt : TypeId) : ∀ (r : List Int) (a : Int),
    (Builtin.min_ tys rt ((a :: r).map (Value.int k)).toArray).run P w = .ok (.int k (r.foldl (fun x y => if y < x then y else x) a)) w := by
  intro r a
  simp only [Builtin.min_, List.map_cons]
  induction r generalizing a with
  | nil => simp
  | cons b r ih =>
    have := ih (if b < a then b else a)
    simp only [List.map_cons, List.foldlM_cons, List.foldl_cons, Builtin.min2, pure_bind]
    exact this
theorem max_run (P : Program) (k : IntKind) (tys : Array TypeId) (rt : TypeId) : ∀ (r : List Int) (a : Int),
    (Builtin.max_ tys rt ((a :: r).map (Value.int k)).toArray).run P w = .ok (.int k (r.foldl (fun x y => if y > x then y else x) a)) w := by
  intro r a
  simp only [Builtin.max_, List.map_cons]
  induction r generalizing a with
  | nil => simp
  | cons b r ih =>
    have := ih (if b > a then b else a)
    simp only [List.map_cons, List.foldlM_cons, List.foldl_cons, Builtin.max2, pure_bind]
    exact this

/-! Structs -/
theorem Reps.take {cs : List AV} {vs : List Value} (h : Reps E w cs vs) (n : Nat) : Reps E w (cs.take n) (vs.take n) :=
  ⟨by simp [h.1], fun i a v h1 h2 => by
    rw [List.getElem?_take] at h1 h2
    split at h1
    · rename_i hi; rw [if_pos hi] at h2; exact h.2 i a v h1 h2
    · simp at h1⟩
theorem Reps.drop {cs : List AV} {vs : List Value} (h : Reps E w cs vs) (n : Nat) : Reps E w (cs.drop n) (vs.drop n) :=
  ⟨by simp [h.1], fun i a v h1 h2 => by
    rw [List.getElem?_drop] at h1 h2
    exact h.2 _ a v h1 h2⟩

theorem put_cells {cs l r : List AV} {vs us : List Value} {off : Nat} (hr : Reps E w cs vs) (hl : Reps E w l us) (h : putCells cs off l = some r) :
    Reps E w r (us.zipIdx.foldl (fun (acc : Array Value) (x : Value × Nat) => acc.setIfInBounds (off + x.2) x.1) vs.toArray).toList ∧ off + us.length ≤ vs.length := by
  unfold putCells at h
  split at h
  · rename_i hle
    simp only [Option.some.injEq] at h; subst h
    have hlen : us.length = l.length := hl.1.symm
    have hfold : ∀ (us : List Value) (k : Nat) (acc : Array Value), off + k + us.length ≤ acc.size →
        ((us.zipIdx k).foldl (fun (acc : Array Value) (x : Value × Nat) => acc.setIfInBounds (off + x.2) x.1) acc).toList = acc.toList.take (off + k) ++ us ++ acc.toList.drop (off + k + us.length) := by
      intro us
      induction us with
      | nil => intro k acc _; simp
      | cons u us ih =>
        intro k acc hb
        simp at hb
        simp only [List.zipIdx_cons, List.foldl_cons]
        rw [ih (k + 1) _ (by simp; omega)]
        apply List.ext_getElem?
        intro i
        simp only [Array.toList_setIfInBounds, List.length_cons]
        by_cases h1 : i < off + k
        · rw [List.getElem?_append_left (by simp; omega), List.getElem?_append_left (by simp; omega), List.getElem?_append_left (by simp; omega), List.getElem?_append_left (by simp; omega)]
          rw [List.getElem?_take, List.getElem?_take, if_pos (by omega), if_pos h1, List.getElem?_set_ne (by omega)]
        · by_cases h2 : i < off + k + 1
          · have : i = off + k := by omega
            subst this
            rw [List.getElem?_append_left (by simp; omega), List.getElem?_append_left (by simp; omega), List.getElem?_append_left (by simp; omega), List.getElem?_append_right (by simp; omega)]
            rw [List.getElem?_take, if_pos (by omega), List.getElem?_set_self (by simpa using by omega)]
            simp [show min (off + k) acc.size = off + k by omega]
          · by_cases h3 : i < off + k + 1 + us.length
            · rw [List.getElem?_append_left (by simp; omega), List.getElem?_append_right (by simp; omega), List.getElem?_append_left (by simp; omega), List.getElem?_append_right (by simp; omega)]
              simp [show min (off + k) acc.size = off + k by omega, show min (off + (k + 1)) acc.size = off + k + 1 by omega]
              rw [show i - (off + k) = (i - (off + k + 1)) + 1 by omega]
              simp
            · rw [List.getElem?_append_right (by simp; omega), List.getElem?_append_right (by simp; omega)]
              simp only [List.getElem?_drop]
              rw [List.getElem?_set_ne (by simp; omega)]
              congr 1
              simp; omega
    have h0 := hfold us 0 vs.toArray (by simp [hlen, ← hr.1]; omega)
    simp only [Nat.add_zero] at h0
    rw [h0, hlen]
    exact ⟨Reps.append (Reps.append (hr.take off) hl) (hr.drop _), by rw [← hr.1]; exact hle⟩
  · simp at h

theorem sizes_ok (hC : COk C) {fields : Array Field} : ∀ {fs : List (Nat × TypeId)} {l : List (Nat × Nat)} {fl : List Field}, fl.map (fun f => (f.offset, f.type)) = fs → sizes C.D fs = some l →
    (fl.mapM fun f => (do pure (f.offset, ← sizeOf f.type) : Sem (Nat × Nat))).run C.P w = .ok l w
  | [], l, fl, hfl, h => by
    simp at hfl; subst hfl
    simp [sizes] at h; subst h; rfl
  | (o, t) :: fs, l, fl, hfl, h => by
    cases fl with
    | nil => simp at hfl
    | cons f fl =>
      simp at hfl
      obtain ⟨⟨rfl, rfl⟩, hfl⟩ := hfl
      simp only [sizes] at h
      split at h
      · rename_i d l' hd hl'
        simp at h; subst h
        have := sizes_ok hC (fields := fields) hfl hl'
        simp only [List.mapM_cons, Sem.run_bind, (hC.ty _ d hd).size_run, Result.andThen_ok, Sem.run_pure, this]
      · simp at h

theorem fill_ok {l : List (Nat × Nat)} : ∀ {parts : List (Nat × AV)} {us : List (Nat × Value)} {cs r : List AV} {vs : List Value}, parts.map (·.1) = us.map (·.1) → Reps E w (parts.map (·.2)) (us.map (·.2)) → Reps E w cs vs →
    fillAt l cs parts = some r → ∃ out : Array Value, Instr.fill (l.toArray[·]?) vs.toArray us = some out ∧ Reps E w r out.toList
  | [], us, cs, r, vs, hm, hp, hr, h => by
    cases us with
    | nil => simp [fillAt] at h; subst h; exact ⟨vs.toArray, rfl, hr⟩
    | cons u us => simp at hm
  | (i, a) :: parts, us, cs, r, vs, hm, hp, hr, h => by
    cases us with
    | nil => simp at hm
    | cons u us =>
      obtain ⟨j, v⟩ := u
      simp at hm
      obtain ⟨rfl, hm⟩ := hm
      simp only [fillAt] at h
      split at h
      · simp at h
      · rename_i off size hi
        simp only [Option.bind_eq_some_iff] at h
        obtain ⟨c, hc, h⟩ := h
        split at h
        · rename_i hsz
          simp only [Option.bind_eq_some_iff] at h
          obtain ⟨cs', hcs', h⟩ := h
          have h0 : Rep E w a v := hp.2 0 a v (by simp) (by simp)
          have hcells := (cellsOf_rep h0 hc).1
          have hrest : Reps E w (parts.map (·.2)) (us.map (·.2)) := ⟨by have := hp.1; simp at this ⊢; exact this, fun k x y h1 h2 => hp.2 (k + 1) x y (by simpa using h1) (by simpa using h2)⟩
          obtain ⟨hput, hle⟩ := put_cells hr hcells hcs'
          obtain ⟨out, hout, hro⟩ := fill_ok hm hrest hput h
          refine ⟨out, ?_, hro⟩
          have hvs : v.cells.size = size := by have := hcells.1; simp at this; rw [← this]; exact hsz
          simp only [Instr.fill]
          simp only [List.getElem?_toArray, hi]
          have hle'' : (decide (v.cells.size ≠ size) || decide (off + v.cells.size > vs.toArray.size)) = false := by
            simp only [Array.length_toList] at hle
            simp [hvs]; omega
          rw [hle'']
          simp only [Bool.false_eq_true, if_false]
          rw [← Array.foldl_toList, Array.toList_zipIdx]
          simpa using hout
        · simp at h

theorem build_ok (hC : COk C) {ty : TypeId} {parts : List (Nat × AV)} {us : List (Nat × Value)} {r : AV} (hm : parts.map (·.1) = us.map (·.1)) (hp : Reps E w (parts.map (·.2)) (us.map (·.2)))
    (h : aBuild C ty parts = some r) : ∃ v', (Instr.build ty us.toArray).run C.P w = .ok v' w ∧ Rep E w r v' := by
  simp only [aBuild, Option.bind_eq_some_iff] at h
  obtain ⟨d, hd, h⟩ := h
  have hty := hC.ty ty d hd
  obtain ⟨u, hu, hk⟩ := hty.und
  split at h
  · rename_i fs hkd
    rw [hkd] at hk
    obtain ⟨fields, rfl, hfs⟩ := hk
    simp only [Option.bind_eq_some_iff, Option.map_eq_some_iff] at h
    obtain ⟨l, hl, cs, hcs, rfl⟩ := h
    obtain ⟨z, hz, hzr, hzl⟩ := hty.zero_run E w
    obtain ⟨out, hout, hro⟩ := fill_ok hm hp hzr hcs
    refine ⟨.agg out, ?_, ?_⟩
    · have hs := sizes_ok (w := w) hC (fields := fields) hfs hl
      have hs' : (fields.mapM fun f => (do pure (f.offset, ← sizeOf f.type) : Sem (Nat × Nat))).run C.P w = .ok l.toArray w := by
        rw [← Array.toList_mapM] at hs
        simp only [Sem.run_map] at hs
        revert hs
        cases ((fields.mapM fun f => (do pure (f.offset, ← sizeOf f.type) : Sem (Nat × Nat))).run C.P w) with
        | ok x w1 => simp; rintro rfl rfl; exact ⟨by simp, rfl⟩
        | halt x w1 => simp
      have hz' : Instr.fill (fun x => l.toArray[x]?) z.cells us = some out := by simpa using hout
      simp only [Instr.build, Sem.run_bind, hz w, Result.andThen_ok, run_underlying hu, hs']
      rw [hz']
      rfl
    · have := Rep.agg (E := E) (w := w) cs out.toList hro.1 hro.2
      simpa using this
  · simp at h
end
end Go.W
