/- Maps: look-ups and stores. Conditions: those of the abstract operation. -/
import Derived.Test.YtjnomlphjnnbnaaGreatDoorW11
set_option linter.unusedVariables false
set_option linter.unusedSimpArgs false
namespace Go.W
open Go.RowKit (Below)

section
variable {C : Ctx} {B : Nat} {w0 : World} {E : Env} {σ : AS} {w : World}

theorem bytes_beq (a b : List UInt8) : (ByteArray.mk a.toArray == ByteArray.mk b.toArray) = (a == b) := by
  show (a.toArray == b.toArray) = (a == b)
  simp

/-- A map's entries, as the store has them. -/
def EntRel (E : Env) (w : World) : List (AV × AV) → List MapEntry → Prop
  | [], [] => True
  | (k, a) :: es, m :: ms => Rep E w k m.key ∧ Rep E w a m.val ∧ EntRel E w es ms
  | _, _ => False

theorem entRel_of : ∀ {es : List (AV × AV)} {ms : List MapEntry}, ms.length = es.length → (∀ (i : Nat) (k a : AV) (m : MapEntry), es[i]? = some (k, a) → ms[i]? = some m → Rep E w k m.key ∧ Rep E w a m.val) → EntRel E w es ms
  | [], [], _, _ => trivial
  | [], _ :: _, h, _ => by simp at h
  | _ :: _, [], h, _ => by simp at h
  | (k, a) :: es, m :: ms, h, hr => by
    obtain ⟨h1, h2⟩ := hr 0 k a m rfl rfl
    exact ⟨h1, h2, entRel_of (by simpa using h) (fun i k a m h1 h2 => hr (i + 1) k a m (by simpa using h1) (by simpa using h2))⟩
theorem of_entRel : ∀ {es : List (AV × AV)} {ms : List MapEntry}, EntRel E w es ms → ms.length = es.length ∧ ∀ (i : Nat) (k a : AV) (m : MapEntry), es[i]? = some (k, a) → ms[i]? = some m → Rep E w k m.key ∧ Rep E w a m.val
  | [], [], _ => by simp
  | [], _ :: _, h => h.elim
  | _ :: _, [], h => h.elim
  | (k, a) :: es, m :: ms, h => by
    obtain ⟨h1, h2, h3⟩ := h
    obtain ⟨i1, i2⟩ := of_entRel h3
    refine ⟨by simp [i1], fun i k' a' m' g1 g2 => ?_⟩
    cases i with
    | zero => simp at g1 g2; obtain ⟨rfl, rfl⟩ := g1; subst g2; exact ⟨h1, h2⟩
    | succ i => exact i2 i k' a' m' (by simpa using g1) (by simpa using g2)

/-- A key, and the type of keys. -/
theorem key_ok (hC : COk C) {kt : TypeId} {k : AV} {kv : Value} (h : keyOk C kt k = true) (hk : Rep E w k kv) :
    ∃ u, C.P.underlying kt = some u ∧ (∀ empty n w', (Instr.checkKey empty (n + 1) kt kv).run C.P w' = .ok () w') ∧
      ∀ (k' : AV) (kv' : Value) (b : Bool), Rep E w k' kv' → keyEq k k' = some b → Instr.sameNow u kv kv' = some b ∧ (b = true → ∀ n, Instr.sameBits n kv' kv = true) := by
  unfold keyOk at h
  split at h
  · rename_i q _ n hkd
    obtain ⟨u, hu, hkd⟩ := kindOf_ok hC hkd
    simp only [KdOk] at hkd; subst hkd
    cases hk
    refine ⟨_, hu, fun empty n w' => by simp [Instr.checkKey, run_underlying hu], fun k' kv' b hr he => ?_⟩
    cases k' <;> simp only [keyEq, reduceCtorEq] at he
    cases hr
    split at he
    · rename_i hk; subst hk
      simp only [Option.some.injEq] at he; subst he
      refine ⟨by simp [Instr.sameNow], fun hb n => ?_⟩
      simp only [beq_iff_eq] at hb
      subst hb
      cases n <;> simp [Instr.sameBits]
    · simp at he
  · rename_i l hkd
    obtain ⟨u, hu, hkd⟩ := kindOf_ok hC hkd
    simp only [KdOk] at hkd; subst hkd
    cases hk
    refine ⟨_, hu, fun empty n w' => by simp [Instr.checkKey, run_underlying hu], fun k' kv' b hr he => ?_⟩
    cases k' <;> simp only [keyEq, reduceCtorEq] at he
    cases hr
    rename_i l2
    simp only [Option.some.injEq] at he; subst he
    have hb := bytes_beq l l2
    refine ⟨by simp [Instr.sameNow, hb], fun hb' n => ?_⟩
    simp only [beq_iff_eq] at hb'
    subst hb'
    have hb2 := bytes_beq l l
    simp only [beq_self_eq_true] at hb2
    cases n <;> simp [Instr.sameBits, hb2]
  · simp at h

theorem find_ok {u : TypeDesc} {k : AV} {kv : Value} (hsame : ∀ (k' : AV) (kv' : Value) (b : Bool), Rep E w k' kv' → keyEq k k' = some b → Instr.sameNow u kv kv' = some b ∧ (b = true → ∀ n, Instr.sameBits n kv' kv = true)) :
    ∀ {es : List (AV × AV)} {ms : List MapEntry} {r : Option AV} (i0 : Nat), EntRel E w es ms → findKey k es = some r →
      (r = none ∧ Instr.findNow u kv ms i0 = some none) ∨ (∃ v j m, r = some v ∧ Instr.findNow u kv ms i0 = some (some (i0 + j, m.val)) ∧ ms[j]? = some m ∧ Rep E w v m.val ∧ (∀ n, Instr.sameBits n m.key kv = true))
  | [], [], r, i0, _, h => by simp [findKey] at h; subst h; exact .inl ⟨rfl, rfl⟩
  | [], _ :: _, r, i0, h, _ => h.elim
  | _ :: _, [], r, i0, h, _ => h.elim
  | (k', v') :: es, m :: ms, r, i0, hr, h => by
    obtain ⟨h1, h2, h3⟩ := hr
    simp only [findKey] at h
    split at h
    · rename_i hk
      simp at h; subst h
      obtain ⟨hs, hb⟩ := hsame k' m.key true h1 hk
      refine .inr ⟨v', 0, m, rfl, ?_, rfl, h2, hb rfl⟩
      simp [Instr.findNow, hs]
    · rename_i hk
      obtain ⟨hs, _⟩ := hsame k' m.key false h1 hk
      rcases find_ok hsame (i0 + 1) h3 h with ⟨rfl, hf⟩ | ⟨v, j, m', rfl, hf, hj, hv, hb⟩
      · exact .inl ⟨rfl, by simp [Instr.findNow, hs, hf]⟩
      · exact .inr ⟨v, j + 1, m', rfl, by simp [Instr.findNow, hs, hf]; omega, by simpa using hj, hv, hb⟩
    · simp at h

theorem zeroOf_ok (hC : COk C) {t : TypeId} {a : AV} (h : zeroOf C t = some a) (w : World) (E : Env) : ∃ z, (∀ w', (zeroValue t).run C.P w' = .ok z w') ∧ Rep E w a z := by
  simp only [zeroOf, Option.bind_eq_some_iff] at h
  obtain ⟨d, hd, h⟩ := h
  obtain ⟨i, zv, hi, hs, hb, hz, hc, hl, h1, h2⟩ := (hC.ty t d hd).info
  refine ⟨zv, fun w' => run_zeroValue hi hz w', ?_⟩
  have hr := absCs_rep E w _ _ hc
  rcases mkVal_agg h with ⟨hag, rfl⟩ | ⟨hag, hz1⟩
  · obtain ⟨cs, rfl⟩ := h1 hag
    have := Rep.agg (E := E) (w := w) d.zero cs.toList hr.1 hr.2
    simpa using this
  · have h0 := h2 hag
    rw [hz1] at hr
    have hcells : zv.cells = #[zv] := by cases zv <;> simp_all [Value.cells, Value.oneCell']
    rw [hcells] at hr
    exact hr.2 0 a zv rfl rfl

theorem mapOf_ok (W : WRel C B w0 E σ w) {m : AV} {v : Value} {es : List (AV × AV)} (hm : Rep E w m v) (h : mapOf σ m = some es) :
    (v = .map none ∧ es = []) ∨ (∃ r ms ck, v = .map (some r) ∧ w.heap[r]? = some (.map ms ck) ∧ EntRel E w es ms.toList) := by
  unfold mapOf at h
  split at h
  · cases hm; simp at h; subst h; exact .inl ⟨rfl, rfl⟩
  · split at h
    · rename_i es' hid
      simp at h; subst h
      cases hm with
      | map _ L hL =>
        obtain ⟨L', ms, ck, hL', hB, hh, hsz, hr⟩ := W.obj _ _ hid
        rw [hL] at hL'; cases hL'
        exact .inr ⟨L.b, ms, ck, rfl, hh, entRel_of (by simpa using hsz) (fun i k a m h1 h2 => hr i k a m h1 (by simpa using h2))⟩
    · simp at h
  · simp at h

theorem run_getObj (P : Program) {w : World} {r : Nat} {ms : Array MapEntry} {ck : Nat} (h : w.heap[r]? = some (.map ms ck)) : (getObj r).run P w = .ok (.map ms ck) w := by
  simp [getObj, Sem.run, h]
theorem run_setObj (P : Program) {w : World} {r : Nat} {ms : Array MapEntry} {ck : Nat} (h : w.heap[r]? = some (.map ms ck)) (o : Obj) : (setObj r o).run P w = .ok () { w with heap := w.heap.setIfInBounds r o } := by
  simp [setObj, Sem.run, h]

theorem lookup_ok (hC : COk C) (W : WRel C B w0 E σ w) {ty : TypeId} {m k r : AV} {vm vk : Value} {ok : Bool} (hm : Rep E w m vm) (hk : Rep E w k vk) (h : aLookup C ty σ m k ok = some r) :
    ∃ v', (Instr.lookup ty vm vk ok).run C.P w = .ok v' w ∧ Rep E w r v' := by
  simp only [aLookup, Option.bind_eq_some_iff] at h
  obtain ⟨d, hd, h⟩ := h
  obtain ⟨u, hu, hkd⟩ := (hC.ty ty d hd).und
  split at h
  · rename_i kt e hke
    rw [hke] at hkd; simp only [KdOk] at hkd; subst hkd
    split at h
    · rename_i hko
      simp only [Option.bind_eq_some_iff] at h
      obtain ⟨es, hes, q, hq, v, hv, h⟩ := h
      simp at h; subst h
      obtain ⟨uk, huk, hck, hsame⟩ := key_ok (E := E) (w := w) hC hko hk
      have fin : ∀ (ms : Array MapEntry), EntRel E w es ms.toList → ∃ x val, (Instr.findKey kt vk ms.toList).run C.P w = .ok x w ∧
          ((x = none ∧ q = none) ∨ (∃ j, x = some (j, val) ∧ q.isSome = true ∧ Rep E w v val)) := fun ms hr => by
        rcases find_ok hsame 0 hr hq with ⟨rfl, hf⟩ | ⟨v', j, mm, rfl, hf, hj, hvr, hb⟩
        · exact ⟨none, .nilFunc, by simp [Instr.findKey, run_underlying huk, hf], .inl ⟨rfl, rfl⟩⟩
        · simp at hv; subst hv
          exact ⟨some (0 + j, mm.val), mm.val, by simp [Instr.findKey, run_underlying huk, hf], .inr ⟨_, rfl, rfl, hvr⟩⟩
      -- what comes of it, whichever list of entries there is
      have fin2 : ∀ (ms : Array MapEntry), EntRel E w es ms.toList → ∃ v0, Rep E w v v0 ∧ ∃ x, (Instr.findKey kt vk ms.toList).run C.P w = .ok x w ∧
          (match x with | some (_, v) => (pure (v, true) : Sem (Value × Bool)) | none => do pure (← zeroValue e, false)).run C.P w = .ok (v0, q.isSome) w := fun ms hr => by
        obtain ⟨x, val, hx, hcase⟩ := fin ms hr
        rcases hcase with ⟨rfl, rfl⟩ | ⟨j, rfl, hs, hrv⟩
        · obtain ⟨z, hz, hzr⟩ := zeroOf_ok hC (by simpa using hv) w E
          exact ⟨z, hzr, none, hx, by simp [hz]⟩
        · exact ⟨val, hrv, _, hx, by simp [hs]⟩
      have fin3 : ∀ v0, Rep E w v v0 → Rep E w (if ok = true then .tup [v, .bool q.isSome] else v) (if ok = true then .tuple #[v0, .bool q.isSome] else v0) := fun v0 hr => by
        cases ok
        · exact hr
        · exact .tup [v, .bool q.isSome] [v0, .bool q.isSome] rfl (Reps.cons hr (Reps.cons (.bool _) (Reps.nil E w))).2
      rcases mapOf_ok W hm hes with ⟨rfl, rfl⟩ | ⟨r0, ms, ck, rfl, hh, hr⟩
      · obtain ⟨v0, hv0, x, hx, hm⟩ := fin2 #[] trivial
        refine ⟨_, ?_, fin3 v0 hv0⟩
        simp only [Instr.lookup, Sem.run_bind, run_underlying hu, Result.andThen_ok, Sem.run_pure, hck, hx]
        cases x with
        | none => simp only [Sem.run_bind] at hm ⊢; simp at hm ⊢; revert hm; cases (zeroValue e).run C.P w <;> simp; rintro rfl h2 rfl; simp [h2]
        | some x => simp at hm ⊢; obtain ⟨rfl, h2⟩ := hm; simp [h2]
      · obtain ⟨v0, hv0, x, hx, hm⟩ := fin2 ms hr
        refine ⟨_, ?_, fin3 v0 hv0⟩
        simp only [Instr.lookup, Sem.run_bind, run_underlying hu, Result.andThen_ok, Sem.run_pure, run_getObj C.P hh, hck, hx]
        cases x with
        | none => simp only [Sem.run_bind] at hm ⊢; simp at hm ⊢; revert hm; cases (zeroValue e).run C.P w <;> simp; rintro rfl h2 rfl; simp [h2]
        | some x => simp at hm ⊢; obtain ⟨rfl, h2⟩ := hm; simp [h2]
    · simp at h
  · simp at h

/-- A map's block written. -/
theorem WRel.setMap (W : WRel C B w0 E σ w) {id : Nat} {es es' : List (AV × AV)} (hid : σ[id]? = some (.map es)) {L : Loc} (hL : E.μ id = some L) (ms' : Array MapEntry) (ck' : Nat) (hr : EntRel E w es' ms'.toList) :
    WRel C B w0 E (σ.set id (.map es')) { w with heap := w.heap.setIfInBounds L.b (.map ms' ck') } ∧ Ext E w E { w with heap := w.heap.setIfInBounds L.b (.map ms' ck') } := by
  obtain ⟨L0, ms, ck, hL0, hB, hh, hsz, hrel⟩ := W.obj id _ hid
  rw [hL] at hL0; cases hL0
  have hlt : L.b < w.heap.size := (Array.getElem?_eq_some_iff.1 hh).1
  have hother : ∀ k, k ≠ L.b → (w.heap.setIfInBounds L.b (.map ms' ck'))[k]? = w.heap[k]? := fun k hk => by
    rw [Array.getElem?_setIfInBounds_ne (by omega)]
  have x : Ext E w E { w with heap := w.heap.setIfInBounds L.b (.map ms' ck') } := ⟨fun _ _ h => h, fun _ _ h => h, fun b o h => by
    by_cases hb : b = L.b
    · subst hb
      have h2 : (w.heap.setIfInBounds L.b (.map ms' ck'))[L.b]? = some (.map ms' ck') := by simp [hlt]
      unfold World.cell?
      simp only [h2, hh]
    · simp only [World.cell?, hother b hb]⟩
  refine ⟨?_, x⟩
  constructor
  · exact W.below.trans ⟨rfl, rfl, rfl, by simp, fun k hk => hother k (by omega)⟩
  · simp; exact W.size
  · intro b o h; have := W.imm b o h; simpa using this
  · intro id' o' h
    rcases set_get h with ⟨rfl, rfl⟩ | ⟨hne, h⟩
    · obtain ⟨h1, h2⟩ := of_entRel hr
      refine ⟨L, ms', ck', hL, hB, by simp [hlt], by simpa using h1, fun i k a m g1 g2 => ?_⟩
      obtain ⟨r1, r2⟩ := h2 i k a m g1 (by simpa using g2)
      exact ⟨r1.mono x, r2.mono x⟩
    · refine (W.obj id' o' h).mono x (fun L' hL' ha => hother _ ?_) (fun _ _ _ _ h => h)
      intro hb
      exact hne (W.inj id id' _ _ L L' hid h rfl ha hL hL' hb.symm)
  · intro i1 i2 o1 o2 L1 L2 h1' h2' a1 a2 hL1 hL2 hb
    have conv : ∀ (k : Nat) (o : AObj), (σ.set id (.map es'))[k]? = some o → alive o = true → ∃ o' : AObj, σ[k]? = some o' ∧ alive o' = true := by
      intro k o hk ha
      rcases set_get hk with ⟨rfl, rfl⟩ | ⟨_, hk⟩
      · exact ⟨_, hid, rfl⟩
      · exact ⟨o, hk, ha⟩
    obtain ⟨o1', g1, b1⟩ := conv _ _ h1' a1
    obtain ⟨o2', g2, b2⟩ := conv _ _ h2' a2
    exact W.inj i1 i2 o1' o2' L1 L2 g1 g2 b1 b2 hL1 hL2 hb
  · intro k hk; simp at hk; exact W.fresh k hk
  · intro g cs h; exact (W.glob g cs h).mono x

theorem entRel_snoc {k a : AV} {m : MapEntry} (h1 : Rep E w k m.key) (h2 : Rep E w a m.val) : ∀ {es : List (AV × AV)} {ms : List MapEntry}, EntRel E w es ms → EntRel E w (es ++ [(k, a)]) (ms ++ [m])
  | [], [], _ => ⟨h1, h2, trivial⟩
  | [], _ :: _, h => h.elim
  | _ :: _, [], h => h.elim
  | (_, _) :: es, _ :: ms, h => ⟨h.1, h.2.1, entRel_snoc h1 h2 h.2.2⟩

theorem put_ok {u : TypeDesc} {k x : AV} {kv vx : Value} (hk : Rep E w k kv) (hx : Rep E w x vx) (hsame : ∀ (k' : AV) (kv' : Value) (b : Bool), Rep E w k' kv' → keyEq k k' = some b → Instr.sameNow u kv kv' = some b ∧ (b = true → ∀ n, Instr.sameBits n kv' kv = true)) (ck : Nat) :
    ∀ {es es' : List (AV × AV)} {ms : List MapEntry} (i0 : Nat), EntRel E w es ms → putKey k x es = some es' →
      (Instr.findNow u kv ms i0 = some none ∧ EntRel E w es' (ms ++ [{ key := kv, val := vx, born := ck }])) ∨
      (∃ j m, Instr.findNow u kv ms i0 = some (some (i0 + j, m.val)) ∧ ms[j]? = some m ∧ (∀ n, Instr.sameBits n m.key kv = true) ∧ EntRel E w es' (ms.modify j fun e => { e with key := kv, val := vx }))
  | [], es', [], i0, _, h => by simp [putKey] at h; subst h; exact .inl ⟨rfl, hk, hx, trivial⟩
  | [], es', _ :: _, i0, h, _ => h.elim
  | _ :: _, es', [], i0, h, _ => h.elim
  | (k', v') :: es, es', m :: ms, i0, hr, h => by
    obtain ⟨h1, h2, h3⟩ := hr
    simp only [putKey] at h
    split at h
    · rename_i hke
      simp at h; subst h
      obtain ⟨hs, hb⟩ := hsame k' m.key true h1 hke
      exact .inr ⟨0, m, by simp [Instr.findNow, hs], rfl, hb rfl, by simpa using ⟨hk, hx, h3⟩⟩
    · rename_i hke
      simp only [Option.map_eq_some_iff] at h
      obtain ⟨l, hl, rfl⟩ := h
      obtain ⟨hs, _⟩ := hsame k' m.key false h1 hke
      rcases put_ok hk hx hsame ck (i0 + 1) h3 hl with ⟨hf, hr⟩ | ⟨j, m', hf, hj, hb, hr⟩
      · exact .inl ⟨by simp [Instr.findNow, hs, hf], h1, h2, hr⟩
      · exact .inr ⟨j + 1, m', by simp [Instr.findNow, hs, hf]; omega, by simpa using hj, hb, by simpa using ⟨h1, h2, hr⟩⟩
    · simp at h

theorem mapUpdate_ok (hC : COk C) (W : WRel C B w0 E σ w) {ty : TypeId} {m k x : AV} {vm vk vx : Value} {σ' : AS} (hm : Rep E w m vm) (hk : Rep E w k vk) (hx : Rep E w x vx) (h : aMapUpdate C ty σ m k x = some σ') :
    ∃ w', (Instr.mapUpdate ty vm vk vx).run C.P w = .ok () w' ∧ WRel C B w0 E σ' w' ∧ Ext E w E w' := by
  simp only [aMapUpdate, Option.bind_eq_some_iff] at h
  obtain ⟨d, hd, h⟩ := h
  obtain ⟨u, hu, hkd⟩ := (hC.ty ty d hd).und
  split at h
  · rename_i kt e hke
    rw [hke] at hkd; simp only [KdOk] at hkd; subst hkd
    split at h
    · rename_i hko
      split at h
      · split at h
        · rename_i es hid
          simp only [Option.map_eq_some_iff] at h
          obtain ⟨es', hes', rfl⟩ := h
          obtain ⟨uk, huk, hck, hsame⟩ := key_ok (E := E) (w := w) hC hko hk
          cases hm with
          | map _ L hL =>
            obtain ⟨L', ms, ck, hL', hB, hh, hsz, hr⟩ := W.obj _ _ hid
            rw [hL] at hL'; cases hL'
            have hrel := entRel_of (E := E) (w := w) (es := es) (ms := ms.toList) (by simpa using hsz) (fun i k a m h1 h2 => hr i k a m h1 (by simpa using h2))
            rcases put_ok hk hx hsame ck 0 hrel hes' with ⟨hf, hr'⟩ | ⟨j, mm, hf, hj, hb, hr'⟩
            · obtain ⟨W', x'⟩ := W.setMap hid hL (ms.push { key := vk, val := vx, born := ck }) (ck + 1) (by simpa using hr')
              refine ⟨_, ?_, W', x'⟩
              simp only [Instr.mapUpdate, Sem.run_bind, run_underlying hu, Result.andThen_ok, run_getObj C.P hh, hck, Instr.findKey, run_underlying huk, hf, Sem.run_pure, run_setObj C.P hh]
            · obtain ⟨W', x'⟩ := W.setMap hid hL (ms.modify j fun e => { e with key := vk, val := vx }) ck (by simpa using hr')
              refine ⟨_, ?_, W', x'⟩
              have hj' : ms[j]? = some mm := by simpa using hj
              simp only [Nat.zero_add] at hf
              simp only [Instr.mapUpdate, Sem.run_bind, run_underlying hu, Result.andThen_ok, run_getObj C.P hh, hck, Instr.findKey, run_underlying huk, hf, Sem.run_pure, hj', Option.map_some, Option.getD_some, Instr.keyThatStays, hb, if_true, run_setObj C.P hh]
        · simp at h
      · simp at h
    · simp at h
  · simp at h
end
end Go.W
