/- append, whole. Conditions: those of the abstract operation. -/
import Derived.Test.YtjnomlphjnnbnaaGreatDoorW10
set_option linter.unusedVariables false
set_option linter.unusedSimpArgs false
namespace Go.W
open Go.RowKit (Below)

section
variable {C : Ctx} {B : Nat} {w0 : World} {E : Env} {σ : AS} {w : World}

theorem src_ok (hC : COk C) (W : WRel C B w0 E σ w) {t2 : TypeId} {x : AV} {v : Value} {new : List (List AV)} {sz : Nat} (hx : Rep E w x v) (hk : (∃ e, kindOf C t2 = some (.slice e)) ∨ kindOf C t2 = some .str)
    (h : srcElems σ x = some new) (hl : lensAre sz new = true) : ∃ nv, Src C w t2 v sz new.length nv ∧ Reps E w new.flatten nv := by
  have hkind : ∃ u, C.P.underlying t2 = some u ∧ ∀ k, u ≠ .int k := by
    rcases hk with ⟨e, hk⟩ | hk
    · obtain ⟨u, hu, hk⟩ := kindOf_ok hC hk
      simp only [KdOk] at hk; subst hk; exact ⟨_, hu, by simp⟩
    · obtain ⟨u, hu, hk⟩ := kindOf_ok hC hk
      simp only [KdOk] at hk; subst hk; exact ⟨_, hu, by simp⟩
  have gen : ∀ es, elems σ x = some es → new = es → ∃ nv, Src C w t2 v sz new.length nv ∧ Reps E w new.flatten nv := fun es he hn => by
    subst hn
    obtain ⟨nv, hrun, hr⟩ := elems_run C.P W hx he (lens_ok hl)
    obtain ⟨A, cap, ad, sz', rfl, _⟩ := elems_rep W hx he
    exact ⟨nv, ⟨hkind, fun w' => rfl, hrun w fun _ => rfl, hrun w.drew fun _ => rfl⟩, hr⟩
  unfold srcElems at h
  split at h
  · rename_i l
    simp at h; subst h
    cases hx
    refine ⟨l.map fun b => .int .u8 b.toNat, ⟨hkind, fun w' => ?_, ?_, ?_⟩, ?_⟩
    · simp [Builtin.lenOf, strElems, ByteArray.size]
    · have : (ByteArray.mk l.toArray).extract 0 (strElems l).length = ⟨l.toArray⟩ := by
        apply ByteArray.ext; rw [ByteArray.data_extract]; simp [strElems]
      simp [Builtin.firstCells, this]
    · have : (ByteArray.mk l.toArray).extract 0 (strElems l).length = ⟨l.toArray⟩ := by
        apply ByteArray.ext; rw [ByteArray.data_extract]; simp [strElems]
      simp [Builtin.firstCells, this]
    · have hf : (strElems l).flatten = l.map fun b => AV.int .u8 b.toNat := by
        unfold strElems
        clear hl gen
        induction l with
        | nil => rfl
        | cons b l ih => simp at ih ⊢; exact ih
      rw [hf]
      refine ⟨by simp, fun i a u h1 h2 => ?_⟩
      simp only [List.getElem?_map, Option.map_eq_some_iff] at h1 h2
      obtain ⟨b, hb, rfl⟩ := h1
      obtain ⟨b', hb', rfl⟩ := h2
      rw [hb] at hb'; cases hb'
      exact .int _ _
  · exact gen _ h rfl

theorem lens_append {sz : Nat} {a b : List (List AV)} (ha : ∀ (i : Nat) (e : List AV), a[i]? = some e → e.length = sz) (hb : ∀ (i : Nat) (e : List AV), b[i]? = some e → e.length = sz) :
    ∀ (i : Nat) (e : List AV), (a ++ b)[i]? = some e → e.length = sz := fun i e h => by
  by_cases hi : i < a.length
  · rw [List.getElem?_append_left hi] at h; exact ha i e h
  · rw [List.getElem?_append_right (by omega)] at h; exact hb _ e h

/-- A pure slice with places behind it, in a new block. -/
theorem new_tok (W : WRel C B w0 E σ w) (es : List (List AV)) (sz cap : Nat) (c : Array Value) (e : TypeId) (hsz : ∀ (i : Nat) (g : List AV), es[i]? = some g → g.length = sz) (hp : ∀ a ∈ es.flatten, a.pure = true)
    (vs : List Value) (hr : Reps E w es.flatten vs) (hcv : ∀ (k : Nat) v, vs[k]? = some v → c[k]? = some v) (hc : es.length ≤ cap) (hcap : cap * sz ≤ c.size) :
    ∃ E', WRel C B w0 E' (σ ++ [AObj.tok sz]) (w.alloc (.cells c e)) ∧ Ext E w E' (w.alloc (.cells c e)) ∧ Rep E' (w.alloc (.cells c e)) (.list es (.tok σ.length)) (.slice (some ⟨w.heap.size, 0, none⟩) es.length cap) := by
  have W1 := W.newImm (· < es.length * sz) (.cells c e)
  have x1 := ext_imm W (· < es.length * sz) (.cells c e)
  have hnoI : ∀ o, es.length * sz ≤ o → ¬ (E.imm w.heap.size (· < es.length * sz)).I w.heap.size o := fun o ho h => by
    rcases h with h | ⟨_, h⟩
    · have := W.imm _ _ h; omega
    · omega
  have x2 := ext_add W1 ⟨w.heap.size, es.length * sz, sz, c.size⟩
  have W2 := W1.add ⟨w.heap.size, es.length * sz, sz, c.size⟩ (.tok sz) ⟨⟨w.heap.size, es.length * sz, sz, c.size⟩, c, e, by simp [Env.bind], rfl, W.size, heap_new w _, Nat.le_refl _, fun o ho h => hnoI o ho h⟩
    (fun id o L h1 h2 h3 => by have := (W.block_lt h1 h2 h3).1; simp only; omega)
  refine ⟨_, W2, x1.trans x2, ?_⟩
  refine list_rep es _ sz vs w.heap.size cap hsz hp hc ((hr.mono x1).mono x2) (fun k v hk => ?_) (fun k hk => .inr ⟨rfl, hk⟩) ⟨by simp, .inr ⟨rfl, ⟨w.heap.size, es.length * sz, sz, c.size⟩, by simp [Env.bind], rfl, by simp, rfl, by simpa using hcap⟩⟩
  rw [World.cell?_alloc_new]; exact hcv k v hk


/-- The cells of a block, some of them written. -/
theorem spliced (c : Array Value) (o : Nat) (nv : List Value) (h : o + nv.length ≤ c.size) :
    (c.toList.take o ++ nv ++ c.toList.drop (o + nv.length)).toArray.size = c.size ∧
    (∀ k, (k < o ∨ o + nv.length ≤ k) → (c.toList.take o ++ nv ++ c.toList.drop (o + nv.length)).toArray[k]? = c[k]?) ∧
    (∀ k, k < nv.length → (c.toList.take o ++ nv ++ c.toList.drop (o + nv.length)).toArray[o + k]? = nv[k]?) := by
  refine ⟨by simp; omega, fun k hk => ?_, fun k hk => ?_⟩
  · simp only [List.getElem?_toArray]
    rcases hk with hk | hk
    · rw [List.getElem?_append_left (by simp; omega), List.getElem?_append_left (by simp; omega), List.getElem?_take, if_pos hk]; simp
    · rw [List.getElem?_append_right (by simp; omega), List.getElem?_drop]
      simp only [Array.getElem?_toList]
      congr 1; simp; omega
  · simp only [List.getElem?_toArray]
    rw [List.getElem?_append_left (by simp; omega), List.getElem?_append_right (by simp; omega)]
    congr 1; simp; omega

theorem pure_oneCell {l : List AV} {vs : List Value} (h : Reps E w l vs) (hp : ∀ a ∈ l, a.pure = true) : ∀ v ∈ vs, v.oneCell' = true :=
  h.oneCell fun c hc => by have := hp c hc; cases c <;> simp_all [AV.pure, AV.isCell]

theorem list_shape {es : List (List AV)} {tl : Tail} {v : Value} (h : Rep E w (.list es tl) v) : ∃ A cap, v = .slice A es.length cap ∧ es.length ≤ cap ∧ (tl = .nil → cap = 0) ∧ (tl = .full → cap = es.length) := by
  cases h with
  | list _ _ A cap ad sz vs hc hA hs hsz hcell hrep ht =>
    refine ⟨A, cap, rfl, hc, ?_, ?_⟩
    · rintro rfl; exact ht.2
    · rintro rfl; exact ht.2

theorem clean_cell {a c : AV} (h : a.clean = some c) : a.isCell = true := by
  unfold AV.clean at h
  split at h
  · rfl
  · split at h
    · rename_i hp; cases a <;> simp_all [AV.pure, AV.isCell]
    · simp at h
theorem cleanAll_cell : ∀ {l c : List AV}, cleanAll l = some c → ∀ a ∈ l, a.isCell = true
  | [], c, h, a, ha => by simp at ha
  | b :: l, c, h, a, ha => by
    simp only [cleanAll] at h
    split at h
    · rename_i x xs hx hxs
      rcases List.mem_cons.1 ha with rfl | ha
      · exact clean_cell hx
      · exact cleanAll_cell hxs a ha
    · simp at h
theorem cleanEls_all : ∀ {l c : List (List AV)}, cleanEls l = some c → ∀ a ∈ l.flatten, a.isCell = true
  | [], c, h, a, ha => by simp at ha
  | b :: l, c, h, a, ha => by
    simp only [cleanEls] at h
    split at h
    · rename_i x xs hx hxs
      simp only [List.flatten_cons, List.mem_append] at ha
      rcases ha with ha | ha
      · exact cleanAll_cell hx a ha
      · exact cleanEls_all hxs a ha
    · simp at h
theorem cleanEls_cell {l c : List (List AV)} (h : cleanEls l = some c) (k : Nat) (a : AV) (ha : l.flatten[k]? = some a) : a.isCell = true := cleanEls_all h a (List.mem_of_getElem? ha)

theorem append_ok (hC : COk C) (W : WRel C B w0 E σ w) {mq : Bool} {t t2 rt : TypeId} {s x : AV} {vs vx : Value} {r : AV × AS} (hs : Rep E w s vs) (hx : Rep E w x vx)
    (hk : (∃ e, kindOf C t2 = some (.slice e)) ∨ kindOf C t2 = some .str) (h : aAppend C mq t σ s x = some r) :
    ∃ v' w' E', (Builtin.append_ #[t, t2] rt #[vs, vx]).run C.P w = .ok v' w' ∧ WRel C B w0 E' r.2 w' ∧ Ext E w E' w' ∧ Rep E' w' r.1 v' := by
  simp only [aAppend, Option.bind_eq_some_iff] at h
  obtain ⟨d, hd, h⟩ := h
  obtain ⟨u, hu, hkd⟩ := (hC.ty t d hd).und
  split at h
  · rename_i e hke
    rw [hke] at hkd; simp only [KdOk] at hkd; subst hkd
    simp only [Option.bind_eq_some_iff] at h
    obtain ⟨de, hde, new, hnew, old, hold, h⟩ := h
    split at h
    · rename_i h0
      simp at h; subst h
      obtain rfl := List.eq_nil_of_length_eq_zero h0
      obtain ⟨nv, hsrc, hnr⟩ := src_ok (sz := de.size) hC W hx hk hnew rfl
      obtain ⟨A, cap, ad, sz, rfl, hc, _⟩ := elems_rep W hs hold
      have hnv : nv = [] := List.eq_nil_of_length_eq_zero (by have := hnr.1; simpa using this.symm)
      subst hnv
      exact ⟨_, w, E, append_same (rt := rt) hC hu hde hc hsrc, W, Ext.refl E w, hs⟩
    · rename_i hn0
      split at h
      · rename_i hcond
        obtain ⟨hroom, hpos, hbp, hlo, hln⟩ := hcond
        obtain ⟨nv, hsrc, hnr⟩ := src_ok (sz := de.size) hC W hx hk hnew hln
        have hlo' := lens_ok hlo
        have hln' := lens_ok hln
        obtain ⟨ov, hov, hor⟩ := elems_run C.P W hs hold hlo'
        have hnl : nv.length = new.length * de.size := by rw [← hnr.1]; exact (flat_get hln').1
        have hol : ov.length = old.length * de.size := by rw [← hor.1]; exact (flat_get hlo').1
        -- the new block, whoever asks for it
        have fresh : ∀ A cap, vs = .slice A old.length cap → cap < old.length + new.length →
            ∃ newCap rest, old.length + new.length ≤ newCap ∧ rest.size = (newCap - (old.length + new.length)) * de.size ∧ (Builtin.append_ #[t, t2] rt #[vs, vx]).run C.P w =
              .ok (.slice (some ⟨w.heap.size, 0, none⟩) (old.length + new.length) newCap) (w.drew.alloc (.cells (ov.toArray ++ nv.toArray ++ rest) e)) := fun A cap hv hlt => by
          subst hv
          exact append_new (rt := rt) hC hu hde hlt hsrc (hov w.drew fun _ => rfl) hroom hbp
        have hcomb : Reps E w (old ++ new).flatten (ov ++ nv) := by simpa using Reps.append hor hnr
        have hlens : ∀ (i : Nat) (e : List AV), (old ++ new)[i]? = some e → e.length = de.size := lens_append hlo' hln'
        have hsizes : ∀ newCap (rest : Array Value), old.length + new.length ≤ newCap → rest.size = (newCap - (old.length + new.length)) * de.size → newCap * de.size = (ov.toArray ++ nv.toArray ++ rest).size := fun newCap rest h1 h2 => by
          simp only [Array.size_append, h2]
          simp only [List.size_toArray, hol, hnl]
          rw [← Nat.add_mul, ← Nat.add_mul]; congr 1; omega
        have hpre : ∀ (rest : Array Value) (k : Nat) v, (ov ++ nv)[k]? = some v → (ov.toArray ++ nv.toArray ++ rest)[k]? = some v := fun rest k v hv => by
          have hlt := (List.getElem?_eq_some_iff.1 hv).1
          rw [Array.getElem?_append_left (by simpa using hlt)]
          simpa using hv
        -- a row in a new block
        have asRow : ∀ (σ1 : AS), WRel C B w0 E σ1 w.drew → ∀ newCap (rest : Array Value), old.length + new.length ≤ newCap → rest.size = (newCap - (old.length + new.length)) * de.size →
            ∃ E', WRel C B w0 E' (σ1 ++ [AObj.row (old ++ new)]) (w.drew.alloc (.cells (ov.toArray ++ nv.toArray ++ rest) e)) ∧ Ext E w E' (w.drew.alloc (.cells (ov.toArray ++ nv.toArray ++ rest) e)) ∧
              Rep E' (w.drew.alloc (.cells (ov.toArray ++ nv.toArray ++ rest) e)) (.sl σ1.length 0 (old.length + new.length)) (.slice (some ⟨w.heap.size, 0, none⟩) (old.length + new.length) newCap) := fun σ1 W1 newCap rest h1 h2 => by
          have hcap := hsizes newCap rest h1 h2
          obtain ⟨W2, x2⟩ := new_row W1 (old ++ new) de.size (ov.toArray ++ nv.toArray ++ rest) e hlens (by rw [← hcap]; exact Nat.mul_le_mul_right _ (by simpa using h1)) (fun i g j a hg hj => by
            have h3 := flat_idx hlens hg hj
            have hlt : i * de.size + j < (ov ++ nv).length := by rw [← hcomb.1]; exact (List.getElem?_eq_some_iff.1 h3).1
            refine ⟨(ov ++ nv)[i * de.size + j], hpre rest _ _ (by rw [List.getElem?_eq_getElem hlt]), (hcomb.2 _ a _ h3 (by rw [List.getElem?_eq_getElem hlt])).mono (ext_drew E w)⟩)
          refine ⟨_, W2, (ext_drew E w).trans x2, .sl σ1.length 0 (old.length + new.length) newCap _ ⟨w.drew.heap.size, 0, de.size, (ov.toArray ++ nv.toArray ++ rest).size⟩ (by simp [Env.bind]) h1 (.inr ⟨?_, ?_⟩)⟩
          · simp
          · simp only [Nat.zero_add]; rw [← hcap]; exact Nat.le_refl _
        split at h
        · -- a row
          rename_i id off n
          split at h
          · rename_i es hid
            split at h
            · rename_i hcells
              simp only [Option.some.injEq] at h; subst h
              obtain ⟨hcells, hes0, hesl⟩ := hcells
              have hcell : ∀ c ∈ new.flatten, c.isCell = true := fun c hc => by
                obtain ⟨g, hg, hcg⟩ := List.mem_flatten.1 hc
                exact (List.all_eq_true.1 ((List.all_eq_true.1 hcells) g hg)) c hcg
              have hσ1 : (σ.set id .dead).length = σ.length := by simp
              cases hs with
              | sl _ _ _ cap ad L hL hc hA =>
                have hno : n = old.length := by
                  obtain ⟨A', cap', ad', sz', hv', _⟩ := elems_rep W (.sl id off n cap ad L hL hc hA) hold
                  injection hv' with _ h2 _
                subst hno
                by_cases hle : old.length + new.length ≤ cap
                · rcases hA with h0' | ⟨rfl, hAu⟩
                  · omega
                  · obtain ⟨L0, c, ce, hL0, hB, hh, h1, h2, h3, h4, h5⟩ := W.obj id _ hid
                    rw [hL] at hL0; cases hL0
                    -- the row's own size
                    have hsz : L.sz = de.size := by
                      rw [← lens_ok hesl 0 es[0] (by simp [hes0])]; exact (h1 0 es[0] (by simp [hes0])).symm
                    have hbnd : L.o + off * L.sz + (old.length + new.length) * de.size ≤ c.size := by
                      have : (old.length + new.length) * de.size ≤ cap * L.sz := by rw [hsz]; exact Nat.mul_le_mul_right _ hle
                      rw [Nat.add_mul] at hAu; omega
                    have hrun := append_in (rt := rt) hC hu hde (b := L.b) (o := L.o + off * L.sz) (n := old.length) hle hsrc hh hnl hbnd (hnr.oneCell hcell)
                    have hsp := spliced c (L.o + off * L.sz + old.length * de.size) nv (by rw [hnl]; rw [Nat.add_mul] at hbnd; omega)
                    generalize (c.toList.take (L.o + off * L.sz + old.length * de.size) ++ nv ++ c.toList.drop (L.o + off * L.sz + old.length * de.size + nv.length)).toArray = c' at hrun hsp
                    obtain ⟨hs1, hs2, hs3⟩ := hsp
                    have hf := W.free_kill hid rfl hL
                    obtain ⟨W2, x2⟩ := (W.kill id).setFree hB hh hs1 hf (fun o ho => absurd ho (h5 o)) (fun _ => False)
                    have hnoI : ∀ o, ¬ (E.imm L.b (fun _ => False)).I L.b o := fun o ho => by
                      rcases ho with ho | ⟨_, ho⟩
                      · exact h5 o ho
                      · exact ho
                    -- the old elements, as the row has them
                    have hget : ∀ (i : Nat) (g : List AV), old[i]? = some g → es[off + i]? = some g := fun i g hg => by
                      simp only [elems, rowCut, rowOf, hid, Option.bind_some] at hold
                      split at hold
                      · simp at hold
                        rw [← hold, List.getElem?_take] at hg
                        split at hg
                        · rw [List.getElem?_drop] at hg; exact hg
                        · simp at hg
                      · simp at hold
                    have W3 := W2.add ⟨L.b, L.o + off * L.sz, de.size, L.u⟩ (.row (old ++ new)) ⟨⟨L.b, L.o + off * L.sz, de.size, L.u⟩, c', ce, by simp [Env.bind], hB, setRow_heap w L.b c c' ce (0, 0) hh, hlens,
                      by simp only [hs1, List.length_append]; exact hbnd, by simp only [hs1]; exact h3, fun i g j a hg hj => by
                        have x3 := x2.trans (ext_add W2 ⟨L.b, L.o + off * L.sz, de.size, L.u⟩)
                        have hjlt : j < de.size := by rw [← hlens i g hg]; exact (List.getElem?_eq_some_iff.1 hj).1
                        by_cases hi : i < old.length
                        · rw [List.getElem?_append_left hi] at hg
                          obtain ⟨v, hv, hrv⟩ := h4 (off + i) g j a (hget i g hg) hj
                          refine ⟨v, ?_, hrv.mono x3⟩
                          have hlt : i * de.size + de.size ≤ old.length * de.size := by rw [← Nat.succ_mul]; exact Nat.mul_le_mul_right _ hi
                          simp only
                          rw [hs2 _ (.inl (by omega)), ← hv]
                          congr 1
                          rw [hsz, Nat.add_mul]; omega
                        · rw [List.getElem?_append_right (by omega)] at hg
                          have h3' := flat_idx hln' hg hj
                          have hlt : (i - old.length) * de.size + j < nv.length := by rw [← hnr.1]; exact (List.getElem?_eq_some_iff.1 h3').1
                          refine ⟨nv[(i - old.length) * de.size + j], ?_, (hnr.2 _ a _ h3' (by rw [List.getElem?_eq_getElem hlt])).mono x3⟩
                          have := hs3 _ hlt
                          rw [List.getElem?_eq_getElem hlt] at this
                          rw [← this]
                          simp only
                          congr 1
                          have : (i - old.length) * de.size + old.length * de.size = i * de.size := by rw [← Nat.add_mul]; congr 1; omega
                          omega, fun o ho => hnoI o ho⟩ hf
                    refine ⟨_, _, _, hrun, W3, x2.trans (ext_add W2 _), ?_⟩
                    rw [show σ.length = (σ.set id .dead).length from hσ1.symm]
                    refine .sl _ 0 (old.length + new.length) cap _ ⟨L.b, L.o + off * L.sz, de.size, L.u⟩ (by simp [Env.bind]) hle (.inr ⟨by simp, ?_⟩)
                    simp only [Nat.zero_add]; rw [← hsz]; rw [Nat.add_mul] at hAu; omega
                · obtain ⟨newCap, rest, h1, h2, hrun⟩ := fresh _ cap rfl (by omega)
                  obtain ⟨E', W', x', hrep⟩ := asRow (σ.set id .dead) (W.kill id).drew newCap rest h1 h2
                  rw [hσ1] at hrep
                  exact ⟨_, _, E', hrun, W', x', hrep⟩
            · simp at h
          · simp at h
        · -- a pure slice
          rename_i es tl
          simp only [Option.bind_eq_some_iff] at h
          obtain ⟨σ1, hσ1, h⟩ := h
          have heo : es = old := by simpa [elems] using hold
          subst heo
          obtain ⟨A, cap, rfl, hc, hnil, hfull⟩ := list_shape hs
          split at h
          · -- a row
            rename_i hmq
            split at h
            · rename_i hcells
              simp only [Option.some.injEq] at h; subst h
              have hσ : σ1 = σ ∧ cap < es.length + new.length := by
                cases tl with
                | no => simp at hσ1
                | nil => simp at hσ1; exact ⟨hσ1.symm, by have := hnil rfl; omega⟩
                | full => simp at hσ1; exact ⟨hσ1.symm, by have := hfull rfl; omega⟩
                | tok id => simp only [hmq, if_true] at hσ1; split at hσ1 <;> simp at hσ1
              obtain ⟨rfl, hlt⟩ := hσ
              obtain ⟨newCap, rest, h1, h2, hrun⟩ := fresh _ cap rfl hlt
              obtain ⟨E', W', x', hrep⟩ := asRow σ1 W.drew newCap rest h1 h2
              exact ⟨_, _, E', hrun, W', x', hrep⟩
            · simp at h
          · rename_i hmq
            simp only [Option.bind_eq_some_iff, Option.some.injEq] at h
            obtain ⟨cl, hcl, rfl⟩ := h
            obtain ⟨q1, q2, q3, q4⟩ := cleanEls_rep hnr hcl
            have hlens2 : ∀ (i : Nat) (e : List AV), (es ++ cl)[i]? = some e → e.length = de.size := lens_append hlo' (q4 _ hln')
            have hlen2 : (es ++ cl).length = es.length + new.length := by simp [q3]
            have hcomb2 : Reps E w (es ++ cl).flatten (ov ++ nv) := by simpa using Reps.append hor q1
            have hp2 : ∀ a ∈ (es ++ cl).flatten, a.pure = true := by
              intro a ha
              simp only [List.flatten_append, List.mem_append] at ha
              rcases ha with ha | ha
              · cases hs with
                | list _ _ A cap ad sz vs hc hA hs hsz hcell hrep ht =>
                  obtain ⟨g, hg, hag⟩ := List.mem_flatten.1 ha
                  obtain ⟨i, hi, rfl⟩ := List.getElem_of_mem hg
                  obtain ⟨j, hj, rfl⟩ := List.getElem_of_mem hag
                  exact (hcell i _ j _ (by rw [List.getElem?_eq_getElem hi]) (by rw [List.getElem?_eq_getElem hj])).2.2
              · exact q2 a ha
            -- a new block
            have asNew : ∀ (σ2 : AS), WRel C B w0 E σ2 w → cap < es.length + new.length → ∃ v' w' E', (Builtin.append_ #[t, t2] rt #[.slice A es.length cap, vx]).run C.P w = .ok v' w' ∧ WRel C B w0 E' (σ2 ++ [AObj.tok de.size]) w' ∧ Ext E w E' w' ∧
                Rep E' w' (.list (es ++ cl) (.tok σ2.length)) v' := fun σ2 W1 hlt => by
              obtain ⟨newCap, rest, h1, h2, hrun⟩ := fresh _ cap rfl hlt
              obtain ⟨E', W', x', hrep⟩ := new_tok W1.drew (es ++ cl) de.size newCap (ov.toArray ++ nv.toArray ++ rest) e hlens2 hp2 (ov ++ nv) (hcomb2.mono (ext_drew E w)) (hpre rest) (by rw [hlen2]; exact h1) (by rw [hsizes newCap rest h1 h2]; exact Nat.le_refl _)
              rw [hlen2] at hrep
              exact ⟨_, _, E', hrun, W', (ext_drew E w).trans x', hrep⟩
            cases tl with
            | no => simp at hσ1
            | nil => simp at hσ1; subst hσ1; exact asNew _ W (by have := hnil rfl; omega)
            | full => simp at hσ1; subst hσ1; exact asNew _ W (by have := hfull rfl; omega)
            | tok id =>
              simp only [hmq] at hσ1
              split at hσ1
              · rename_i z hid
                simp only [Bool.false_eq_true, if_false] at hσ1
                split at hσ1
                · rename_i hz
                  simp only [Option.some.injEq] at hσ1; subst hσ1
                  subst hz
                  by_cases hle : es.length + new.length ≤ cap
                  · cases hs with
                    | list _ _ _ _ ad sz vs hc' hA hsp0 hsz hcell hrep ht =>
                      obtain ⟨hA0, ht⟩ := ht
                      rcases ht with h00 | ⟨hAad, L, hL, hLb, hLo, hLs, hLu⟩
                      · omega
                      · obtain ⟨L0, c, ce, hL0, hLz, hB, hh, hLc, hnoI⟩ := W.obj id _ hid
                        rw [hL] at hL0; cases hL0
                        have hszz : sz = de.size := by rw [← hLs, hLz]
                        subst hszz
                        subst hAad
                        have had := addr_eta hsp0
                        have hbnd : ad.off + (es.length + new.length) * de.size ≤ c.size := by
                          have : (es.length + new.length) * de.size ≤ cap * de.size := Nat.mul_le_mul_right _ hle
                          omega
                        rw [hLb] at hh hB hnoI
                        have hrun := append_in (rt := rt) hC hu hde (b := ad.block) (o := ad.off) (n := es.length) hle hsrc hh hnl hbnd (hnr.oneCell (fun a ha => by
                          obtain ⟨k, hk, rfl⟩ := List.getElem_of_mem ha
                          have hk' : k < cl.flatten.length := by rw [q1.1, ← hnr.1]; exact hk
                          have hkn : k < nv.length := by rw [← hnr.1]; exact hk
                          have h1 := q2 cl.flatten[k] (by simp)
                          have h2 := q1.2 k _ nv[k] (by rw [List.getElem?_eq_getElem hk']) (by rw [List.getElem?_eq_getElem hkn])
                          have h3 := hnr.2 k _ nv[k] (by rw [List.getElem?_eq_getElem hk]) (by rw [List.getElem?_eq_getElem hkn])
                          exact cleanEls_cell hcl k _ (by rw [List.getElem?_eq_getElem hk])))
                        rw [← had] at hrun
                        have hsp := spliced c (ad.off + es.length * de.size) nv (by rw [hnl]; rw [Nat.add_mul] at hbnd; omega)
                        generalize (c.toList.take (ad.off + es.length * de.size) ++ nv ++ c.toList.drop (ad.off + es.length * de.size + nv.length)).toArray = c' at hrun hsp
                        obtain ⟨hs1, hs2, hs3⟩ := hsp
                        have hf := W.free_kill hid rfl hL
                        rw [hLb] at hf
                        obtain ⟨W2, x2⟩ := (W.kill id).setFree hB hh hs1 hf (fun o ho => hs2 o (by
                          by_cases hlt : o < L.o
                          · left; omega
                          · exact absurd ho (hnoI o (by omega)))) (fun k => ad.off + es.length * de.size ≤ k ∧ k < ad.off + (es.length + new.length) * de.size)
                        have W3 := W2.add ⟨ad.block, ad.off + (es.length + new.length) * de.size, de.size, L.u⟩ (.tok de.size) ⟨⟨ad.block, ad.off + (es.length + new.length) * de.size, de.size, L.u⟩, c', ce, by simp [Env.bind], rfl, hB,
                          setRow_heap w ad.block c c' ce (0, 0) hh, by simp only [hs1]; exact hLc, fun o ho hI => by
                            simp only at ho hI
                            rw [Nat.add_mul] at ho
                            rcases hI with hI | ⟨_, hI⟩
                            · exact hnoI o (by omega) hI
                            · rw [Nat.add_mul] at hI; omega⟩ hf
                        have x3 := x2.trans (ext_add W2 ⟨ad.block, ad.off + (es.length + new.length) * de.size, de.size, L.u⟩)
                        have hI3 : ∀ k, ad.off + es.length * de.size ≤ k → k < ad.off + (es.length + new.length) * de.size → ((E.imm ad.block (fun k => ad.off + es.length * de.size ≤ k ∧ k < ad.off + (es.length + new.length) * de.size)).bind (σ.set id .dead).length ⟨ad.block, ad.off + (es.length + new.length) * de.size, de.size, L.u⟩).I ad.block k := fun k h1 h2 => .inr ⟨rfl, h1, h2⟩
                        have hμ3 : ((E.imm ad.block (fun k => ad.off + es.length * de.size ≤ k ∧ k < ad.off + (es.length + new.length) * de.size)).bind (σ.set id .dead).length ⟨ad.block, ad.off + (es.length + new.length) * de.size, de.size, L.u⟩).μ (σ.set id .dead).length = some ⟨ad.block, ad.off + (es.length + new.length) * de.size, de.size, L.u⟩ := by simp [Env.bind]
                        generalize ((E.imm ad.block (fun k => ad.off + es.length * de.size ≤ k ∧ k < ad.off + (es.length + new.length) * de.size)).bind (σ.set id .dead).length ⟨ad.block, ad.off + (es.length + new.length) * de.size, de.size, L.u⟩) = E3 at W3 x3 hI3 hμ3
                        refine ⟨_, _, _, hrun, W3, x3, ?_⟩
                        rw [← hlen2] at hμ3 ⊢
                        refine .list (es ++ cl) _ (some ad) cap ad de.size (fun i j => if i < es.length then vs i j else nv.getD ((i - es.length) * de.size + j) undef) (by rw [hlen2]; exact hle) (fun _ => rfl) hsp0 hlens2 (fun i g j a hg hj => ?_) (fun i g j a hg hj => ?_) ?_
                        · by_cases hi : i < es.length
                          · rw [List.getElem?_append_left hi] at hg
                            obtain ⟨r1, r2, r3⟩ := hcell i g j a hg hj
                            simp only [if_pos hi]
                            exact ⟨x3.I _ _ r1, (x3.keep _ _ r1).trans r2, r3⟩
                          · rw [List.getElem?_append_right (by omega)] at hg
                            have h3 := flat_idx (q4 _ hln') hg hj
                            have hlt : (i - es.length) * de.size + j < nv.length := by rw [← q1.1]; exact (List.getElem?_eq_some_iff.1 h3).1
                            have e1 : ad.off + i * de.size + j = ad.off + es.length * de.size + ((i - es.length) * de.size + j) := by
                              have : (i - es.length) * de.size + es.length * de.size = i * de.size := by rw [← Nat.add_mul]; congr 1; omega
                              omega
                            have hcl' : (w.setRow ad.block c').cell? ⟨ad.block, ad.off + i * de.size + j, none⟩ = some nv[(i - es.length) * de.size + j] := by
                              rw [cell_setRow_same w ad.block _ c c' ce (0, 0) hh, e1, hs3 _ hlt, List.getElem?_eq_getElem hlt]
                            simp only [if_neg hi, List.getD, List.getElem?_eq_getElem hlt, Option.getD_some]
                            exact ⟨hI3 _ (by omega) (by rw [Nat.add_mul]; omega), hcl', q2 a (List.mem_of_getElem? h3)⟩
                        · by_cases hi : i < es.length
                          · rw [List.getElem?_append_left hi] at hg
                            simp only [if_pos hi]
                            exact (hrep i g j a hg hj).mono x3
                          · rw [List.getElem?_append_right (by omega)] at hg
                            have h3 := flat_idx (q4 _ hln') hg hj
                            have hlt : (i - es.length) * de.size + j < nv.length := by rw [← q1.1]; exact (List.getElem?_eq_some_iff.1 h3).1
                            simp only [if_neg hi, List.getD, List.getElem?_eq_getElem hlt, Option.getD_some]
                            exact (q1.2 _ a _ h3 (by rw [List.getElem?_eq_getElem hlt])).mono x3
                        · exact ⟨by simp, .inr ⟨rfl, _, hμ3, rfl, rfl, rfl, hLu⟩⟩
                  · exact asNew _ (W.kill id) (by omega)
                · simp at hσ1
              · simp at hσ1
        · simp at h
      · simp at h
  · simp at h
end
end Go.W
