/- Conversions, slices of slices, lengths, structs built: what they do is what the evaluator says. Conditions: those of the abstract operation. -/
import Derived.Test.YtjnomlphjnnbnaaGreatDoorW5
import Derived.Laws.BytesArg
set_option linter.unusedVariables false
namespace Go.W
open Go.RowKit (Below)

section
variable {C : Ctx} {B : Nat} {w0 : World} {E : Env} {σ : AS} {w : World}

/-- A slice's elements, read: one behind the other. -/
theorem elems_rep (W : WRel C B w0 E σ w) {x : AV} {v : Value} {es : List (List AV)} (hx : Rep E w x v) (he : elems σ x = some es) :
    ∃ A cap ad sz, v = .slice A es.length cap ∧ es.length ≤ cap ∧ (es ≠ [] → A = some ad) ∧ ad.spot = none ∧ (∀ (i : Nat) (e : List AV), es[i]? = some e → e.length = sz) ∧
      (∀ (i : Nat) (e : List AV) (j : Nat) (c : AV), es[i]? = some e → e[j]? = some c → ∃ u, w.cell? ⟨ad.block, ad.off + i * sz + j, none⟩ = some u ∧ Rep E w c u) := by
  unfold elems at he
  split at he
  · simp at he; subst he
    cases hx with
    | list _ _ A cap ad sz vs hc hA hs hsz hcell hrep ht =>
      exact ⟨A, cap, ad, sz, rfl, hc, hA, hs, hsz, fun i e j c h1 h2 => ⟨vs i j, (hcell i e j c h1 h2).2.1, hrep i e j c h1 h2⟩⟩
  · rename_i id off n
    simp only [rowCut, Option.bind_eq_some_iff] at he
    obtain ⟨rs, hrs, he⟩ := he
    split at he
    · rename_i hle
      simp at he
      have hlen : es.length = n := by rw [← he]; simp; omega
      have hget : ∀ (i : Nat) (e : List AV), es[i]? = some e → rs[off + i]? = some e := fun i e hi => by
        rw [← he, List.getElem?_take] at hi
        split at hi
        · rw [List.getElem?_drop] at hi; exact hi
        · simp at hi
      cases hx with
      | sl _ _ _ cap ad L hL hc hA =>
        subst hlen
        refine ⟨some ad, cap, ⟨L.b, L.o + off * L.sz, none⟩, L.sz, rfl, hc, fun hne => ?_, rfl, ?_, ?_⟩
        · rcases hA with h0 | ⟨h1, h2⟩
          · exact absurd (List.eq_nil_of_length_eq_zero (by omega)) hne
          · rw [h1]
        · intro i e hi
          unfold rowOf at hrs
          split at hrs
          · rename_i es' hid
            simp at hrs; subst hrs
            obtain ⟨L', cc, ety, hL', hB, hheap, hsz, _⟩ := W.obj id _ hid
            rw [hL] at hL'; cases hL'
            exact hsz _ e (hget i e hi)
          · rename_i es' hid
            simp at hrs; subst hrs
            obtain ⟨L', hL', hsz, hcells⟩ := W.obj id _ hid
            rw [hL] at hL'; cases hL'
            exact hsz _ e (hget i e hi)
          · simp at hrs
        · intro i e j c hi hj
          unfold rowOf at hrs
          have hoff : L.o + off * L.sz + i * L.sz + j = L.o + (off + i) * L.sz + j := by rw [Nat.add_mul]; omega
          split at hrs
          · rename_i es' hid
            simp at hrs; subst hrs
            obtain ⟨L', cc, ety, hL', hB, hheap, hsz, _, _, hcells, _⟩ := W.obj id _ hid
            rw [hL] at hL'; cases hL'
            obtain ⟨u, hu, hr⟩ := hcells (off + i) e j c (hget i e hi) hj
            exact ⟨u, by simp only [hoff, World.cell?, hheap]; simpa using hu, hr⟩
          · rename_i es' hid
            simp at hrs; subst hrs
            obtain ⟨L', hL', hsz, hcells⟩ := W.obj id _ hid
            rw [hL] at hL'; cases hL'
            obtain ⟨_, _, u, hu, hr⟩ := hcells (off + i) e j c (hget i e hi) hj
            exact ⟨u, by rw [hoff]; exact hu, hr⟩
          · simp at hrs
    · simp at he
  · simp at he

theorem flat_get {es : List (List AV)} {sz : Nat} (hsz : ∀ (i : Nat) (e : List AV), es[i]? = some e → e.length = sz) :
    es.flatten.length = es.length * sz ∧ ∀ (k : Nat) c, es.flatten[k]? = some c → ∃ i e j, es[i]? = some e ∧ e[j]? = some c ∧ k = i * sz + j := by
  induction es with
  | nil => simp
  | cons e es ih =>
    have he : e.length = sz := hsz 0 e rfl
    obtain ⟨hl, hg⟩ := ih (fun i e' h => hsz (i + 1) e' (by simpa using h))
    refine ⟨by simp [hl, he, Nat.add_mul]; omega, fun k c hk => ?_⟩
    simp only [List.flatten_cons] at hk
    by_cases hlt : k < e.length
    · rw [List.getElem?_append_left hlt] at hk
      exact ⟨0, e, k, rfl, hk, by omega⟩
    · rw [List.getElem?_append_right (by omega)] at hk
      obtain ⟨i, e', j, h1, h2, h3⟩ := hg _ c hk
      refine ⟨i + 1, e', j, by simpa using h1, h2, ?_⟩
      rw [Nat.add_mul]; omega

/-- All cells of a slice's elements, loaded. -/
theorem elems_run (P : Program) (W : WRel C B w0 E σ w) {x : AV} {v : Value} {es : List (List AV)} (hx : Rep E w x v) (he : elems σ x = some es) {sz : Nat}
    (hsz : ∀ (i : Nat) (e : List AV), es[i]? = some e → e.length = sz) :
    ∃ vs : List Value, (∀ w' : World, (∀ a, w'.cell? a = w.cell? a) → (Builtin.firstCells sz es.length v).run P w' = .ok vs.toArray w') ∧ Reps E w es.flatten vs := by
  obtain ⟨A, cap, ad, sz', rfl, hc, hA, hs, hsz', hcell⟩ := elems_rep W hx he
  by_cases hne : es = []
  · subst hne
    refine ⟨[], fun w' _ => ?_, Reps.nil E w⟩
    cases A with
    | none => rfl
    | some a => simp [Builtin.firstCells, loadCells, loadCellsFrom]
  · have hA' := hA hne; subst hA'
    obtain ⟨e0, es0, rfl⟩ := List.exists_cons_of_ne_nil hne
    have : sz' = sz := (hsz' 0 e0 rfl).symm.trans (hsz 0 e0 rfl)
    subst this
    obtain ⟨hl, hg⟩ := flat_get hsz
    obtain ⟨vs, hrun, hr, _⟩ := cells_run' (E := E) (w := w) P ad.block ad.off (e0 :: es0).flatten (fun k c hk => by
      obtain ⟨i, e, j, h1, h2, rfl⟩ := hg k c hk
      obtain ⟨u, hu, hru⟩ := hcell i e j c h1 h2
      exact ⟨u, by rw [← Nat.add_assoc]; exact hu, hru⟩)
    refine ⟨vs, fun w' hw' => ?_, hr⟩
    have hrun := hrun w' hw'
    rw [hl] at hrun
    rw [← addr_eta hs] at hrun
    exact hrun

theorem bytes_rep {es : List (List AV)} {l : List UInt8} (h : bytesOf es = some l) : es.length = l.length ∧ (∀ (i : Nat) (e : List AV), es[i]? = some e → e.length = 1) ∧
    ∀ vs, Reps E w es.flatten vs → vs.length = l.length ∧ ∀ (i : Nat) v, vs[i]? = some v → ∃ n, v = .int .u8 n ∧ l[i]? = some (UInt8.ofNat n.toNat) := by
  induction es generalizing l with
  | nil =>
    simp [bytesOf] at h; subst h
    refine ⟨rfl, by simp, fun vs hv => ?_⟩
    have h0 := hv.1
    simp at h0
    obtain rfl := List.eq_nil_of_length_eq_zero h0.symm
    exact ⟨rfl, by simp⟩
  | cons e es ih =>
    simp only [bytesOf] at h
    split at h
    · rename_i b l' hb hl'
      simp at h; subst h
      obtain ⟨i1, i2, i3⟩ := ih hl'
      unfold byteOf at hb
      split at hb
      · rename_i n
        simp at hb; subst hb
        refine ⟨by simp [i1], fun i e he => ?_, fun vs hv => ?_⟩
        · cases i with
          | zero => simp at he; subst he; rfl
          | succ i => exact i2 i e (by simpa using he)
        · cases vs with
          | nil => have := hv.1; simp at this
          | cons v vs =>
            have h0 : Rep E w (.int .u8 n) v := hv.2 0 _ v (by simp) rfl
            cases h0
            have hrest : Reps E w es.flatten vs := ⟨by have := hv.1; simp at this; simpa using this, fun i a u h1 h2 => hv.2 (i + 1) a u (by simpa using h1) (by simpa using h2)⟩
            obtain ⟨j1, j2⟩ := i3 vs hrest
            refine ⟨by simp [j1], fun i u hu => ?_⟩
            cases i with
            | zero => simp at hu; subst hu; exact ⟨n, rfl, rfl⟩
            | succ i => exact j2 i u (by simpa using hu)
      · simp at hb
    · simp at h

theorem kindOf_ok (hC : COk C) {t : TypeId} {k : TK} (h : kindOf C t = some k) : ∃ u, C.P.underlying t = some u ∧ KdOk k u := by
  simp only [kindOf, Option.map_eq_some_iff] at h
  obtain ⟨d, hd, rfl⟩ := h
  exact (hC.ty t d hd).und

theorem convert_ok (hC : COk C) (W : WRel C B w0 E σ w) {src dst : TypeId} {x r : AV} {v : Value} (hx : Rep E w x v) (h : aConvert C src dst σ x = some r) :
    ∃ v', (convert src dst v).run C.P w = .ok v' w ∧ Rep E w r v' := by
  unfold aConvert at h
  split at h
  · split at h
    · rename_i k' k h1 h2
      simp at h; subst h
      obtain ⟨u1, hu1, _⟩ := kindOf_ok hC h1
      obtain ⟨u2, hu2, hk2⟩ := kindOf_ok hC h2
      simp only [KdOk] at hk2; subst hk2
      cases hx
      exact ⟨_, by simp [convert, run_underlying hu1, run_underlying hu2, Conv.intToInt], .int _ _⟩
    · simp at h
  · split at h
    · rename_i h1 h2
      simp at h; subst h
      obtain ⟨u1, hu1, hk1⟩ := kindOf_ok hC h1
      obtain ⟨u2, hu2, hk2⟩ := kindOf_ok hC h2
      simp only [KdOk] at hk1 hk2; subst hk1 hk2
      cases hx
      exact ⟨_, by simp [convert, run_underlying hu1, run_underlying hu2], .str _⟩
    · simp at h
  · split at h
    · rename_i e h1 h2
      split at h
      · rename_i hbyte
        simp only [Option.bind_eq_some_iff, Option.map_eq_some_iff] at h
        obtain ⟨es, hes, l, hl, rfl⟩ := h
        obtain ⟨u1, hu1, hk1⟩ := kindOf_ok hC h1
        obtain ⟨u2, hu2, hk2⟩ := kindOf_ok hC h2
        simp only [KdOk] at hk1 hk2; subst hk1 hk2
        have hue : C.P.underlying e = some (.int .u8) := by
          unfold isByte at hbyte
          split at hbyte
          · rename_i h3
            obtain ⟨u3, hu3, hk3⟩ := kindOf_ok hC h3
            simp only [KdOk] at hk3; subst hk3; exact hu3
          · simp at hbyte
        obtain ⟨hlen, h1', hv'⟩ := bytes_rep (E := E) (w := w) hl
        obtain ⟨A, cap, ad, sz, rfl, hc, hA, hs, hsz, hcell⟩ := elems_rep W hx hes
        by_cases hne : es = []
        · subst hne
          simp at hlen
          obtain rfl := List.eq_nil_of_length_eq_zero hlen.symm
          refine ⟨.string ByteArray.empty, ?_, .str []⟩
          cases A with
          | none => exact run_convert_bytes_nil w src e hu1 hue _ _ dst hu2
          | some a =>
            have := run_convert_bytes_arg w src e hu1 hue a.block a.off 0 cap [] rfl (by simp) dst hu2
            simp only [convert, Sem.run_bind, run_underlying hu1, run_underlying hu2, run_underlying hue, Result.andThen_ok]
            simp [Conv.bytesToString, loadCells, loadCellsFrom]
        · have hA' := hA hne; subst hA'
          obtain ⟨e0, es0, rfl⟩ := List.exists_cons_of_ne_nil hne
          have : sz = 1 := (hsz 0 e0 rfl).symm.trans (h1' 0 e0 rfl)
          subst this
          obtain ⟨vs, hrun, hr, hcv⟩ := cells_run (E := E) (w := w) C.P ad.block ad.off (e0 :: es0).flatten (fun k c hk => by
            obtain ⟨i, e, j, h1, h2, rfl⟩ := (flat_get hsz).2 k c hk
            obtain ⟨u, hu, hru⟩ := hcell i e j c h1 h2
            exact ⟨u, by rw [← Nat.add_assoc]; exact hu, hru⟩)
          obtain ⟨hvl, hvb⟩ := hv' vs hr
          have key := run_convert_bytes_arg w src e hu1 hue ad.block ad.off (e0 :: es0).length cap (vs.map fun v => match v with | .int _ n => n | _ => 0) (by simp [hvl, ← hlen]) (fun i hi => by
            have hi' : i < vs.length := by rw [hvl, ← hlen]; exact hi
            obtain ⟨n, hn, _⟩ := hvb i vs[i] (by simp [hi'])
            have := hcv i vs[i] (by simp [hi'])
            rw [this, hn]
            simp [List.getD, hi', hn]) dst hu2
          rw [← addr_eta hs] at key
          refine ⟨_, key, ?_⟩
          have : strOfNums (vs.map fun v => match v with | .int _ n => n | _ => 0) = ⟨l.toArray⟩ := by
            unfold strOfNums
            congr 2
            apply List.ext_getElem (by simp [hvl])
            intro i h1 h2
            have hi' : i < vs.length := by rw [hvl]; exact h2
            obtain ⟨n, hn, hln⟩ := hvb i vs[i] (by simp [hi'])
            simp only [List.getElem?_eq_getElem h2, Option.some.injEq] at hln
            simp [hn, hln]
          rw [this]; exact .str l
      · simp at h
    · simp at h

theorem bound_ok (P : Program) {x : AV} {v : Value} {m a : Nat} {c : BoundsCode} (hx : Rep E w x v) (h : bound x m = some a) : (Instr.sliceBound v m c).run P w = .ok a w ∧ a ≤ m := by
  unfold bound at h
  split at h
  · cases hx
    split at h
    · rename_i hi
      simp at h; subst h
      exact ⟨by simp [Instr.sliceBound, asIntOf, hi], by omega⟩
    · simp at h
  · simp at h

def optRep (E : Env) (w : World) : Option AV → Option Value → Prop
  | none, none => True
  | some a, some v => Rep E w a v
  | _, _ => False

theorem bounds_ok (P : Program) {lo hi : Option AV} {vlo vhi : Option Value} (hlo : optRep E w lo vlo) (hhi : optRep E w hi vhi) (isSlice : Bool) {len cap h a : Nat} (hc : len ≤ cap)
    (h1 : hiOf hi len = some h) (h2 : loOf lo h = some a) :
    (Instr.sliceBounds isSlice len cap vlo vhi none).run P w = .ok (a, h, cap) w ∧ a ≤ h ∧ h ≤ len := by
  have e1 : (match vhi with | some v => Instr.sliceBound v cap (if isSlice then .sliceAcap else .sliceAlen) | none => (pure len : Sem Nat)).run P w = .ok h w ∧ h ≤ len := by
    cases hi with
    | none => cases vhi with
      | none => simp [hiOf] at h1; subst h1; exact ⟨rfl, Nat.le_refl _⟩
      | some v => exact hhi.elim
    | some x => cases vhi with
      | none => exact hhi.elim
      | some v =>
        simp only [hiOf] at h1
        have hb : bound x cap = some h := by
          unfold bound at h1 ⊢
          split at h1
          · split at h1
            · rename_i hi; simp at h1; subst h1; rw [if_pos ⟨hi.1, by omega⟩]
            · simp at h1
          · simp at h1
        exact ⟨(bound_ok P hhi hb).1, (bound_ok (c := .index) P hhi h1).2⟩
  have e2 : (match vlo with | some v => Instr.sliceBound v h .sliceB | none => (pure 0 : Sem Nat)).run P w = .ok a w ∧ a ≤ h := by
    cases lo with
    | none => cases vlo with
      | none => simp [loOf] at h2; subst h2; exact ⟨rfl, Nat.zero_le _⟩
      | some v => exact hlo.elim
    | some x => cases vlo with
      | none => exact hlo.elim
      | some v => simp only [loOf] at h2; exact bound_ok P hlo h2
  refine ⟨?_, e2.2, e1.2⟩
  obtain ⟨e1, _⟩ := e1
  obtain ⟨e2, _⟩ := e2
  cases vhi <;> cases vlo <;> simp_all [Instr.sliceBounds]

theorem lens_ok {n : Nat} {es : List (List AV)} (h : lensAre n es = true) : ∀ (i : Nat) (e : List AV), es[i]? = some e → e.length = n := by
  intro i e he
  simp only [lensAre, List.all_eq_true, beq_iff_eq] at h
  exact h e (List.mem_of_getElem? he)

theorem slice_ok (hC : COk C) (W : WRel C B w0 E σ w) {ty : TypeId} {x r : AV} {v : Value} {lo hi : Option AV} {vlo vhi : Option Value} (hx : Rep E w x v) (hlo : optRep E w lo vlo) (hhi : optRep E w hi vhi)
    (h : aSlice C ty σ x lo hi = some r) : ∃ v', (Instr.sliceAt ty v vlo vhi none).run C.P w = .ok v' w ∧ Rep E w r v' := by
  simp only [aSlice, Option.bind_eq_some_iff] at h
  obtain ⟨d, hd, h⟩ := h
  obtain ⟨u, hu, hk⟩ := (hC.ty ty d hd).und
  split at h
  · rename_i l hkd
    rw [hkd] at hk; simp only [KdOk] at hk; subst hk
    simp only [Option.bind_eq_some_iff] at h
    obtain ⟨b, hb, a, ha, h⟩ := h
    simp at h; subst h
    cases hx
    obtain ⟨hr, hab, hbl⟩ := bounds_ok C.P hlo hhi false (Nat.le_refl l.length) hb ha
    have hsz : (ByteArray.mk l.toArray).size = l.length := by simp [ByteArray.size]
    refine ⟨.string ⟨((l.take b).drop a).toArray⟩, ?_, .str _⟩
    have hex : (ByteArray.mk l.toArray).extract a b = ⟨((l.take b).drop a).toArray⟩ := by
      apply ByteArray.ext
      rw [ByteArray.data_extract]
      simp [List.drop_take]
    simp [Instr.sliceAt, Instr.slice, run_underlying hu, hsz, hr, hex]
  · rename_i e es tl hkd
    rw [hkd] at hk; simp only [KdOk] at hk; subst hk
    simp only [Option.bind_eq_some_iff] at h
    obtain ⟨b, hb, a, ha, de, hde, h⟩ := h
    split at h
    · rename_i hlens
      simp at h; subst h
      cases hx with
      | list _ _ A cap ad sz vs hc hA hs hsz hcell hrep ht =>
        obtain ⟨hr, hab, hbl⟩ := bounds_ok C.P hlo hhi true hc hb ha
        have hA0 : A = some ad ∨ es = [] := by
          by_cases hne : es = []
          · exact .inr hne
          · exact .inl (hA hne)
        have hszz : a = 0 ∨ sz = de.size := by
          rcases hlens with h0 | h0
          · exact .inl h0
          · by_cases ha0 : a = 0
            · exact .inl ha0
            · right
              have hp : 0 < es.length := by omega
              exact (hsz 0 es[0] (by simp [hp])).symm.trans (lens_ok h0 0 es[0] (by simp [hp]))
        have hlen : ((es.take b).drop a).length = b - a := by simp; omega
        have hget : ∀ (i : Nat) (g : List AV), ((es.take b).drop a)[i]? = some g → es[a + i]? = some g := fun i g hg => by
          rw [List.getElem?_drop, List.getElem?_take] at hg
          split at hg
          · exact hg
          · simp at hg
        have hadd : ad.off + a * de.size = ad.off + a * sz := by rcases hszz with h0 | h0 <;> subst h0 <;> simp
        have had := addr_eta hs
        have hmap : A.map (·.add (a * de.size)) = (if es = [] then A.map (·.add (a * de.size)) else some ⟨ad.block, ad.off + a * sz, none⟩) := by
          split
          · rfl
          · rename_i hne
            rw [hA hne, had]; simp [add_at, hadd]
        refine ⟨.slice (if cap = a then A else A.map (·.add (a * de.size))) ((es.take b).drop a).length (cap - a), ?_, ?_⟩
        · simp [Instr.sliceAt, Instr.slice, run_underlying hu, hr, (hC.ty e de hde).size_run, hlen]
        · refine .list _ _ _ _ ⟨ad.block, ad.off + a * sz, none⟩ sz (fun i j => vs (a + i) j) (by omega) ?_ rfl (fun i g hg => hsz _ g (hget i g hg)) ?_ (fun i g j c hg hj => hrep _ g j c (hget i g hg) hj) ?_
          · intro hne
            have hne' : es ≠ [] := by rintro rfl; simp at hne
            have hpos : 0 < ((es.take b).drop a).length := List.length_pos_iff.2 hne
            rw [if_neg (by omega), hmap, if_neg hne']
          · intro i g j c hg hj
            have := hcell _ g j c (hget i g hg) hj
            have e1 : ad.off + a * sz + i * sz + j = ad.off + (a + i) * sz + j := by rw [Nat.add_mul]; omega
            simp only [e1]; exact this
          · cases hhi0 : hi with
            | some y => simp [TailRep]
            | none =>
              subst hhi0
              simp only [hiOf, Option.some.injEq] at hb
              subst hb
              show TailRep E tl _ _ _ _ _
              have hA1 : A ≠ none → (if cap = a then A else A.map (·.add (a * de.size))) ≠ none := by
                intro h0
                split
                · exact h0
                · cases A with
                  | none => exact absurd rfl h0
                  | some x => simp
              cases tl with
              | no => trivial
              | nil => obtain ⟨rfl, rfl⟩ := ht; simp [TailRep]
              | full => exact ⟨hA1 ht.1, by have := ht.2; rw [hlen]; omega⟩
              | tok id =>
                refine ⟨hA1 ht.1, ?_⟩
                rcases ht.2 with h0 | ⟨h0, L, hL, hLb, hLo, hLs, hLu⟩
                · left; rw [hlen]; omega
                · by_cases hca : cap = a
                  · left; rw [hlen]; omega
                  · right
                    rw [if_neg hca]
                    have hsp : (es.length - a) * sz + a * sz = es.length * sz := by rw [← Nat.add_mul]; congr 1; omega
                    have hsp2 : (cap - a) * sz + a * sz = cap * sz := by rw [← Nat.add_mul]; congr 1; omega
                    refine ⟨by rw [h0, had]; simp [add_at, hadd], L, hL, hLb, ?_, hLs, ?_⟩
                    · rw [hlen]; simp only; omega
                    · simp only; omega
    · simp at h
  · rename_i e id off n hkd
    rw [hkd] at hk; simp only [KdOk] at hk; subst hk
    simp only [Option.bind_eq_some_iff] at h
    obtain ⟨b, hb, a, ha, de, hde, es, hes, h⟩ := h
    split at h
    · rename_i hlens
      simp at h; subst h
      cases hx with
      | sl _ _ _ cap ad L hL hc hA =>
        obtain ⟨hr, hab, hbl⟩ := bounds_ok C.P hlo hhi true hc hb ha
        refine ⟨.slice (if cap = a then some ad else some (ad.add (a * de.size))) (b - a) (cap - a), ?_, ?_⟩
        · simp [Instr.sliceAt, Instr.slice, run_underlying hu, hr, (hC.ty e de hde).size_run]
        · by_cases hca : cap = a
          · rw [if_pos hca]
            exact .sl id (off + a) (b - a) (cap - a) ad L hL (by omega) (.inl (by omega))
          · rw [if_neg hca]
            rcases hA with h0 | ⟨rfl, hu'⟩
            · omega
            · have hszz : a * de.size = a * L.sz := by
                rcases hlens with h0 | h0
                · subst h0; simp
                · by_cases ha0 : a = 0
                  · subst ha0; simp
                  · -- some element of the row tells the size
                    · obtain ⟨hp, h0⟩ := h0
                      have hl0 := lens_ok h0 0 es[0] (by simp [hp])
                      have hl1 : es[0].length = L.sz := by
                        unfold rowOf at hes
                        split at hes
                        · rename_i es' hid
                          simp at hes; subst hes
                          obtain ⟨L', cc, ety, hL', hB, hheap, hsz, _⟩ := W.obj id _ hid
                          rw [hL] at hL'; cases hL'
                          exact hsz 0 _ (by simp [hp])
                        · rename_i es' hid
                          simp at hes; subst hes
                          obtain ⟨L', hL', hsz, hcells⟩ := W.obj id _ hid
                          rw [hL] at hL'; cases hL'
                          exact hsz 0 _ (by simp [hp])
                        · simp at hes
                      rw [← hl0, hl1]
              refine .sl id (off + a) (b - a) (cap - a) _ L hL (by omega) (.inr ⟨?_, ?_⟩)
              · rw [add_at, hszz, Nat.add_mul, Nat.add_assoc]
              · have : off + a + (cap - a) = off + cap := by omega
                rw [this]; exact hu'
    · simp at h
  · simp at h
end
end Go.W
