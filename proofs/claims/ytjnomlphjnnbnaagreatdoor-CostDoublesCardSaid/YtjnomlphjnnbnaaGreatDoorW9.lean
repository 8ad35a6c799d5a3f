/- Slices made: literals, make. Conditions: those of the abstract operation. -/
import Derived.Test.YtjnomlphjnnbnaaGreatDoorW8
set_option linter.unusedVariables false
namespace Go.W
open Go.RowKit (Below)

theorem flat_idx {es : List (List AV)} {sz : Nat} (hsz : ∀ (i : Nat) (e : List AV), es[i]? = some e → e.length = sz) {i j : Nat} {g : List AV} {a : AV} (hi : es[i]? = some g) (hj : g[j]? = some a) : es.flatten[i * sz + j]? = some a := by
  induction es generalizing i with
  | nil => simp at hi
  | cons e es ih =>
    have he : e.length = sz := hsz 0 e rfl
    cases i with
    | zero =>
      simp at hi; subst hi
      simp only [Nat.zero_mul, Nat.zero_add, List.flatten_cons]
      rw [List.getElem?_append_left (List.getElem?_eq_some_iff.1 hj).1]; exact hj
    | succ i =>
      have := ih (fun k e' h => hsz (k + 1) e' (by simpa using h)) (i := i) (by simpa using hi)
      simp only [List.flatten_cons]
      rw [List.getElem?_append_right (by rw [Nat.succ_mul]; omega), ← this]
      congr 1
      rw [Nat.succ_mul]; omega

theorem flatten_set {sz : Nat} {l : List AV} : ∀ {es : List (List AV)} {i : Nat}, (∀ (i : Nat) (e : List AV), es[i]? = some e → e.length = sz) → i < es.length → l.length = sz →
    putCells es.flatten (i * sz) l = some (es.set i l).flatten
  | [], i, h, hi, hl => by simp at hi
  | e :: es, i, h, hi, hl => by
    have he : e.length = sz := h 0 e rfl
    have hrest : ∀ (k : Nat) (e' : List AV), es[k]? = some e' → e'.length = sz := fun k e' hk => h (k + 1) e' (by simpa using hk)
    cases i with
    | zero =>
      unfold putCells
      rw [if_pos (by simp [hl, he])]
      simp [hl, he]
    | succ i =>
      have := flatten_set hrest (i := i) (by simpa using hi) hl
      unfold putCells at this ⊢
      split at this
      · rename_i hle
        simp only [Option.some.injEq] at this
        rw [if_pos (by simp only [List.flatten_cons, List.length_append, Nat.succ_mul]; omega)]
        simp only [Option.some.injEq, List.flatten_cons, List.set_cons_succ]
        rw [← this, Nat.succ_mul, List.take_append, List.drop_append]
        rw [List.take_of_length_le (by omega), List.drop_of_length_le (by omega)]
        simp only [List.nil_append, List.append_assoc]
        rw [show i * sz + sz - e.length = i * sz by omega, show i * sz + sz + l.length - e.length = i * sz + l.length by omega]
      · simp at this

section
variable {C : Ctx} {B : Nat} {w0 : World} {E : Env} {σ : AS} {w : World}

theorem clean_rep {a c : AV} {v : Value} (h : Rep E w a v) (hc : a.clean = some c) : Rep E w c v ∧ c.pure = true ∧ (a.isCell = true → c.isCell = true) := by
  unfold AV.clean at hc
  split at hc
  · simp at hc; subst hc
    cases h with
    | list _ _ A cap ad sz vs h1 h2 h3 h4 h5 h6 ht => exact ⟨.list _ .no A cap ad sz vs h1 h2 h3 h4 h5 h6 trivial, rfl, fun _ => rfl⟩
  · split at hc <;> simp at hc
    subst hc
    rename_i hp
    exact ⟨h, hp, fun h => h⟩

theorem cleanAll_rep : ∀ {l c : List AV} {vs : List Value}, Reps E w l vs → cleanAll l = some c → Reps E w c vs ∧ (∀ a ∈ c, a.pure = true) ∧ c.length = l.length
  | [], c, vs, h, hc => by simp [cleanAll] at hc; subst hc; exact ⟨h, by simp, rfl⟩
  | a :: l, c, vs, h, hc => by
    simp only [cleanAll] at hc
    split at hc
    · rename_i x xs hx hxs
      simp at hc; subst hc
      match vs, h with
      | [], h => have := h.1; simp at this
      | v :: vs, h =>
        have h0 : Rep E w a v := h.2 0 a v rfl rfl
        have hrest : Reps E w l vs := ⟨by have := h.1; simpa using this, fun i y u h1 h2 => h.2 (i + 1) y u (by simpa using h1) (by simpa using h2)⟩
        obtain ⟨r1, r2, _⟩ := clean_rep h0 hx
        obtain ⟨q1, q2, q3⟩ := cleanAll_rep hrest hxs
        exact ⟨Reps.cons r1 q1, by simpa using ⟨r2, q2⟩, by simp [q3]⟩
    · simp at hc

/-- A pure slice's elements in a block: 'c' has them from its begin on. -/
theorem list_rep (es : List (List AV)) (t : Tail) (sz : Nat) (c : List Value) (b cap : Nat) (hsz : ∀ (i : Nat) (e : List AV), es[i]? = some e → e.length = sz) (hp : ∀ a ∈ es.flatten, a.pure = true)
    (hc : es.length ≤ cap) (hr : Reps E w es.flatten c) (hcell : ∀ (k : Nat) v, c[k]? = some v → w.cell? ⟨b, k, none⟩ = some v) (hI : ∀ k, k < es.length * sz → E.I b k)
    (ht : TailRep E t (some ⟨b, 0, none⟩) es.length cap ⟨b, 0, none⟩ sz) : Rep E w (.list es t) (.slice (some ⟨b, 0, none⟩) es.length cap) := by
  obtain ⟨hl, _⟩ := flat_get hsz
  have key : ∀ (i : Nat) (e : List AV) (j : Nat) (a : AV), es[i]? = some e → e[j]? = some a → ∃ v, c[i * sz + j]? = some v ∧ Rep E w a v ∧ w.cell? ⟨b, i * sz + j, none⟩ = some v := fun i e j a h1 h2 => by
    have h3 := flat_idx hsz h1 h2
    have hlt : i * sz + j < c.length := by rw [← hr.1]; exact (List.getElem?_eq_some_iff.1 h3).1
    exact ⟨c[i * sz + j], by simp [hlt], hr.2 _ a _ h3 (by simp [hlt]), hcell _ _ (by simp [hlt])⟩
  refine .list es t _ cap ⟨b, 0, none⟩ sz (fun i j => c.getD (i * sz + j) undef) hc (fun _ => rfl) rfl hsz (fun i e j a h1 h2 => ?_) (fun i e j a h1 h2 => ?_) ht
  · obtain ⟨v, hv, _, hw⟩ := key i e j a h1 h2
    have h3 := flat_idx hsz h1 h2
    have hlt : i * sz + j < es.length * sz := by rw [← hl]; exact (List.getElem?_eq_some_iff.1 h3).1
    refine ⟨by simpa using hI _ hlt, ?_, hp a (List.mem_of_getElem? h3)⟩
    simp only [Nat.zero_add, List.getD, hv, Option.getD_some]; exact hw
  · obtain ⟨v, hv, hrv, _⟩ := key i e j a h1 h2
    simp only [List.getD, hv, Option.getD_some]; exact hrv

/-- A new block of a pure slice. -/
theorem new_list (W : WRel C B w0 E σ w) (es : List (List AV)) (sz : Nat) (c : Array Value) (e : TypeId) (hsz : ∀ (i : Nat) (g : List AV), es[i]? = some g → g.length = sz) (hp : ∀ a ∈ es.flatten, a.pure = true) (hr : Reps E w es.flatten c.toList) :
    WRel C B w0 (E.imm w.heap.size (· < es.length * sz)) σ (w.alloc (.cells c e)) ∧ Ext E w (E.imm w.heap.size (· < es.length * sz)) (w.alloc (.cells c e)) ∧
      Rep (E.imm w.heap.size (· < es.length * sz)) (w.alloc (.cells c e)) (.list es .full) (.slice (some ⟨w.heap.size, 0, none⟩) es.length es.length) := by
  have x := ext_imm W (· < es.length * sz) (.cells c e)
  refine ⟨W.newImm _ _, x, ?_⟩
  refine list_rep es .full sz c.toList w.heap.size es.length hsz hp (Nat.le_refl _) (hr.mono x) (fun k v hk => ?_) (fun k hk => .inr ⟨rfl, hk⟩) ⟨by simp, rfl⟩
  rw [World.cell?_alloc_new]; simpa using hk

theorem zeros_get (z : Array Value) (n sz : Nat) (hz : z.size = sz) (hpos : 0 < sz) (i j : Nat) (hi : i < n) (hj : j < sz) : ((Array.range (n * sz)).map (fun k => z[k % z.size]!))[i * sz + j]? = z[j]? := by
  have hlt : i * sz + j < n * sz := by
    have : i * sz + sz ≤ n * sz := by rw [← Nat.succ_mul]; exact Nat.mul_le_mul_right _ hi
    omega
  have hm : (i * sz + j) % sz = j := by rw [Nat.add_comm, Nat.add_mul_mod_self_right]; exact Nat.mod_eq_of_lt hj
  simp [hlt, hz, hm, hj]

theorem replicate_get {α : Type} {n i : Nat} {a x : α} (h : (List.replicate n a)[i]? = some x) : i < n ∧ x = a := by
  have := (List.getElem?_eq_some_iff.1 h).1
  simp at this
  rw [List.getElem?_replicate, if_pos this] at h
  simp at h; exact ⟨this, h.symm⟩

theorem zeros_reps {z : List AV} {zv : Array Value} (hz : Reps E w z zv.toList) {n sz : Nat} (hl : z.length = sz) (hpos : 0 < sz) :
    Reps E w (List.replicate n z).flatten ((Array.range (n * sz)).map (fun k => zv[k % zv.size]!)).toList := by
  have hzs : zv.size = sz := by have := hz.1; simp at this; omega
  have hsz : ∀ (i : Nat) (e : List AV), (List.replicate n z)[i]? = some e → e.length = sz := fun i e h => by rw [(replicate_get h).2]; exact hl
  obtain ⟨h1, h2⟩ := flat_get hsz
  refine ⟨by rw [h1]; simp, fun k a v ha hv => ?_⟩
  obtain ⟨i, e, j, hi, hj, rfl⟩ := h2 k a ha
  obtain ⟨hin, rfl⟩ := replicate_get hi
  have hjlt : j < sz := by rw [← hl]; exact (List.getElem?_eq_some_iff.1 hj).1
  rw [Array.getElem?_toList, zeros_get zv n sz hzs hpos i j hin hjlt] at hv
  exact hz.2 j a v hj (by simpa using hv)

theorem fillS_ok {de : TD} : ∀ {parts : List (Nat × AV)} {us : List (Nat × Value)} {es r : List (List AV)} {vs : List Value}, parts.map (·.1) = us.map (·.1) → Reps E w (parts.map (·.2)) (us.map (·.2)) →
    (∀ (i : Nat) (e : List AV), es[i]? = some e → e.length = de.size) → (∀ a ∈ es.flatten, a.pure = true) → Reps E w es.flatten vs → aBuildSlice.go de es parts = some r →
    ∃ out : Array Value, Instr.fill (fun i => some (i * de.size, de.size)) vs.toArray us = some out ∧ Reps E w r.flatten out.toList ∧ (∀ (i : Nat) (e : List AV), r[i]? = some e → e.length = de.size) ∧ (∀ a ∈ r.flatten, a.pure = true) ∧ r.length = es.length
  | [], us, es, r, vs, hm, hp, hsz, hpu, hr, h => by
    cases us with
    | nil => simp [aBuildSlice.go] at h; subst h; exact ⟨vs.toArray, rfl, hr, hsz, hpu, rfl⟩
    | cons u us => simp at hm
  | (i, a) :: parts, us, es, r, vs, hm, hp, hsz, hpu, hr, h => by
    cases us with
    | nil => simp at hm
    | cons u us =>
      obtain ⟨j, v⟩ := u
      simp at hm
      obtain ⟨rfl, hm⟩ := hm
      simp only [aBuildSlice.go, Option.bind_eq_some_iff] at h
      obtain ⟨l, hl, h⟩ := h
      split at h
      · rename_i hc
        simp only [Option.bind_eq_some_iff] at h
        obtain ⟨cl, hcl, h⟩ := h
        have h0 : Rep E w a v := hp.2 0 a v (by simp) (by simp)
        have hcells := (cellsOf_rep h0 hl).1
        obtain ⟨hclr, hclp, hcll⟩ := cleanAll_rep hcells hcl
        have hrest : Reps E w (parts.map (·.2)) (us.map (·.2)) := ⟨by have := hp.1; simp at this ⊢; exact this, fun k x y h1 h2 => hp.2 (k + 1) x y (by simpa using h1) (by simpa using h2)⟩
        have hfs := flatten_set hsz hc.1 (l := cl) (by omega)
        obtain ⟨hput, hle⟩ := put_cells hr hclr hfs
        have hsz' : ∀ (k : Nat) (e : List AV), (es.set i cl)[k]? = some e → e.length = de.size := fun k e hk => by
          rcases set_get hk with ⟨rfl, rfl⟩ | ⟨_, hk⟩
          · omega
          · exact hsz k e hk
        have hpu' : ∀ x ∈ (es.set i cl).flatten, x.pure = true := fun x hx => by
          obtain ⟨e, he, hxe⟩ := List.mem_flatten.1 hx
          rcases List.mem_or_eq_of_mem_set he with he | rfl
          · exact hpu x (List.mem_flatten.2 ⟨e, he, hxe⟩)
          · exact hclp x hxe
        obtain ⟨out, hout, q1, q2, q3, q4⟩ := fillS_ok hm hrest hsz' hpu' hput h
        refine ⟨out, ?_, q1, q2, q3, by simpa using q4⟩
        have hvs : v.cells.size = de.size := by have := hcells.1; simp at this; omega
        have hle'' : (decide (v.cells.size ≠ de.size) || decide (i * de.size + v.cells.size > vs.toArray.size)) = false := by
          simp only [Array.length_toList] at hle
          simp [hvs]; omega
        simp only [Instr.fill]
        rw [hle'']
        simp only [Bool.false_eq_true, if_false]
        rw [← Array.foldl_toList, Array.toList_zipIdx]
        simpa using hout
      · simp at h

theorem buildSlice_ok (hC : COk C) (W : WRel C B w0 E σ w) {ty : TypeId} {len : Nat} {parts : List (Nat × AV)} {us : List (Nat × Value)} {r : AV} (hm : parts.map (·.1) = us.map (·.1)) (hp : Reps E w (parts.map (·.2)) (us.map (·.2)))
    (h : aBuildSlice C ty len parts = some r) : ∃ v' w' E', (Instr.buildSlice ty len us.toArray).run C.P w = .ok v' w' ∧ WRel C B w0 E' σ w' ∧ Ext E w E' w' ∧ Rep E' w' r v' := by
  simp only [aBuildSlice, Option.bind_eq_some_iff] at h
  obtain ⟨d, hd, h⟩ := h
  obtain ⟨u, hu, hk⟩ := (hC.ty ty d hd).und
  split at h
  · rename_i e hkd
    rw [hkd] at hk; simp only [KdOk] at hk; subst hk
    simp only [Option.bind_eq_some_iff] at h
    obtain ⟨de, hde, h⟩ := h
    have hty := hC.ty e de hde
    split at h
    · rename_i hcond
      obtain ⟨hpos, hbig, hzp⟩ := hcond
      simp only [Option.map_eq_some_iff] at h
      obtain ⟨es, hes, rfl⟩ := h
      obtain ⟨z, hz, hzr, hzl⟩ := hty.zero_run E w
      have hsz0 : ∀ (i : Nat) (e : List AV), (List.replicate len de.zero)[i]? = some e → e.length = de.size := fun i e h => by rw [(replicate_get h).2]; exact hzl
      have hpu0 : ∀ a ∈ (List.replicate len de.zero).flatten, a.pure = true := fun a ha => by
        obtain ⟨g, hg, hag⟩ := List.mem_flatten.1 ha
        obtain ⟨hne, rfl⟩ := List.mem_replicate.1 hg
        rcases hzp with h0 | h0
        · exact absurd h0 hne
        · exact (List.all_eq_true.1 h0) a hag
      have hz0 := zeros_reps hzr (n := len) hzl hpos
      obtain ⟨out, hout, q1, q2, q3, q4⟩ := fillS_ok hm hp hsz0 hpu0 hz0 hes
      have hlen : es.length = len := by simpa using q4
      obtain ⟨W', x, hrep⟩ := new_list W es de.size out e q2 q3 q1
      refine ⟨_, _, _, ?_, W', x, hrep⟩
      rw [hlen]
      have hbig' : ¬ (len * de.size > 2 ^ 24) := by omega
      simp only [Array.toArray_toList] at hout
      simp only [Instr.buildSlice, Sem.run_bind, run_underlying hu, hty.size_run, Result.andThen_ok, if_neg hbig']
      by_cases h0 : len * de.size = 0
      · have harr : (Array.range (len * de.size)).map (fun k => (#[] : Array Value)[k % (#[] : Array Value).size]!) = (Array.range (len * de.size)).map (fun k => z.cells[k % z.cells.size]!) := by
          rw [h0]; apply Array.ext <;> simp
        rw [if_pos h0]
        simp only [Sem.run_bind, Sem.run_pure, Result.andThen_ok, harr, hout]
        simp [newRow]
      · rw [if_neg h0]
        simp only [Sem.run_bind, Sem.run_pure, Result.andThen_ok, hz w, hout]
        simp [newRow]
    · simp at h
  · simp at h

theorem room_ok (P : Program) {n : Nat} (h : n ≤ room) (w : World) : (askRoom n).run P w = .ok () w := by
  unfold askRoom roomBytes
  rw [if_neg (by unfold room at h; omega)]; rfl

theorem wrap_small {n : Nat} (h : n ≤ room) : IntKind.i64.wrap (n : Int) = n := by
  unfold room at h
  simp [IntKind.wrap, IntKind.bits, IntKind.signed]
  omega

theorem makeSlice_ok (hC : COk C) (W : WRel C B w0 E σ w) {ty : TypeId} {l c : AV} {vl vc : Value} {r : AV × AS} (hl : Rep E w l vl) (hc : Rep E w c vc) (h : aMakeSlice C ty σ l c = some r) :
    ∃ v' w' E', (Instr.makeSlice ty vl vc).run C.P w = .ok v' w' ∧ WRel C B w0 E' r.2 w' ∧ Ext E w E' w' ∧ Rep E' w' r.1 v' := by
  unfold aMakeSlice at h
  split at h
  · rename_i n m
    split at h
    · rename_i hn
      obtain ⟨rfl, hn⟩ := hn
      simp only [Option.bind_eq_some_iff] at h
      obtain ⟨d, hd, h⟩ := h
      obtain ⟨u, hu, hk⟩ := (hC.ty ty d hd).und
      split at h
      · rename_i e hkd
        rw [hkd] at hk; simp only [KdOk] at hk; subst hk
        simp only [Option.bind_eq_some_iff] at h
        obtain ⟨de, hde, h⟩ := h
        have hty := hC.ty e de hde
        split at h
        · rename_i hcond
          obtain ⟨hb, hr, hpos⟩ := hcond
          simp at h; subst h
          cases hl; cases hc
          obtain ⟨k, rfl⟩ := Int.eq_ofNat_of_zero_le hn
          simp only [Int.toNat_natCast] at hb hr ⊢
          obtain ⟨z, hz, hzr, hzl⟩ := hty.zero_run E w
          obtain ⟨i, hi, his, hib⟩ := hty.info_run w
          have hzs : z.cells.size = de.size := by have := hzr.1; simp at this; omega
          obtain ⟨W', x⟩ := new_row W (List.replicate k de.zero) de.size ((Array.range (k * de.size)).map (fun q => z.cells[q % z.cells.size]!)) e (fun i g h => by rw [(replicate_get h).2]; exact hzl) (by simp) (fun i g j a hg hj => by
            obtain ⟨hik, rfl⟩ := replicate_get hg
            have hj' : j < de.size := by rw [← hzl]; exact (List.getElem?_eq_some_iff.1 hj).1
            rw [zeros_get z.cells k de.size hzs hpos i j hik hj']
            exact ⟨z.cells[j], by simp [hzs, hj'], hzr.2 j a _ hj (by simp [hzs, hj'])⟩)
          refine ⟨.slice (some ⟨w.heap.size, 0, none⟩) k k, _, _, ?_, W', x, .sl σ.length 0 k k _ ⟨w.heap.size, 0, de.size, k * de.size⟩ (by simp [Env.bind]) (Nat.le_refl _) (.inr ⟨by simp, by simp⟩)⟩
          have hw := wrap_small hr
          have ht : ¬ ((k : Int) < 0) := by omega
          have hbig : ¬ ((i.bytes : Int) * (k : Int) > 2 ^ 48) := by
            rw [hib]
            have : (de.bytes : Int) * (k : Int) = ((k * de.bytes : Nat) : Int) := by push_cast; rw [Int.mul_comm]
            rw [this]; unfold room at hb; omega
          have hroom := room_ok C.P (n := k * i.bytes) (by rw [hib]; exact hb) w
          have hcnd : (decide ((k : Int) < 0) || decide ((i.bytes : Int) * (k : Int) > 2 ^ 48) || decide ((k : Int) < 0) || decide ((k : Int) > (k : Int))) = false := by
            simp only [decide_eq_false ht, decide_eq_false hbig]; simp
          simp only [Instr.makeSlice, Sem.run_bind, run_underlying hu, Result.andThen_ok, asInt, asIntOf, Sem.run_pure, hi, hw]
          rw [hcnd]
          simp only [Bool.false_eq_true, if_false, Sem.run_bind, Sem.run_pure, Result.andThen_ok, Int.toNat_natCast, hroom, hty.size_run]
          by_cases h0 : k * de.size = 0
          · have harr : (Array.range (k * de.size)).map (fun q => (#[] : Array Value)[q % (#[] : Array Value).size]!) = (Array.range (k * de.size)).map (fun q => z.cells[q % z.cells.size]!) := by
              rw [h0]; apply Array.ext <;> simp
            rw [if_pos h0]
            simp only [Sem.run_bind, Sem.run_pure, Result.andThen_ok, harr]
            simp [newRow]
          · rw [if_neg h0]
            simp only [Sem.run_bind, Sem.run_pure, Result.andThen_ok, hz w]
            simp [newRow]
        · simp at h
      · simp at h
    · simp at h
  · simp at h

theorem makeMap_ok (W : WRel C B w0 E σ w) (ty : TypeId) :
    ∃ v' w' E', (Instr.makeMap ty none).run C.P w = .ok v' w' ∧ WRel C B w0 E' (σ ++ [AObj.map []]) w' ∧ Ext E w E' w' ∧ Rep E' w' (.map σ.length) v' := by
  have x := ext_bind W ⟨w.heap.size, 0, 0, 0⟩ (.map #[] 0)
  have W' := W.new ⟨w.heap.size, 0, 0, 0⟩ rfl (.map #[] 0) (.map []) ⟨⟨w.heap.size, 0, 0, 0⟩, #[], 0, by simp [Env.bind], W.size, heap_new w _, by simp, by simp⟩
  refine ⟨.map (some w.heap.size), _, _, ?_, W', x, .map σ.length ⟨w.heap.size, 0, 0, 0⟩ (by simp [Env.bind])⟩
  simp [Instr.makeMap]
end
end Go.W
