/- What one operation that writes nothing does is what the evaluator says of it. Conditions: those of the abstract operation. -/
import Derived.Test.YtjnomlphjnnbnaaGreatDoorW3
set_option linter.unusedVariables false
namespace Go.W
open Go.RowKit (Below)

section
variable {C : Ctx} {B : Nat} {w0 : World} {E : Env} {σ : AS} {w : World}

theorem target_rep (W : WRel C B w0 E σ w) {a : AV} {v : Value} (h : Rep E w a v) {cs : List AV} {off : Nat} (ht : target σ a = some (cs, off)) :
    ∃ b o, v = .pointer (some ⟨b, o + off, none⟩) ∧ ∀ (j : Nat) c, cs[j]? = some c → ∃ u, w.cell? ⟨b, o + j, none⟩ = some u ∧ Rep E w c u := by
  cases h with
  | pp es i off' b o sz vs hsz hcell hrep =>
    simp only [target, Option.map_eq_some_iff] at ht
    obtain ⟨e, he, heq⟩ := ht
    simp only [Prod.mk.injEq] at heq
    obtain ⟨rfl, rfl⟩ := heq
    exact ⟨b, o + i * sz, rfl, fun j c hc => ⟨vs i j, (hcell i e j c he hc).2.1, hrep i e j c he hc⟩⟩
  | ptr id i off' L hL =>
    simp only [target, Option.bind_eq_some_iff, Option.map_eq_some_iff] at ht
    obtain ⟨es, hr, e, he, heq⟩ := ht
    simp only [Prod.mk.injEq] at heq
    obtain ⟨rfl, rfl⟩ := heq
    refine ⟨L.b, L.o + i * L.sz, rfl, fun j c hc => ?_⟩
    unfold rowOf at hr
    split at hr
    · rename_i es' hid
      simp at hr; subst hr
      obtain ⟨L', cc, ety, hL', hB, hheap, hsz, _, _, hcells, _⟩ := W.obj id _ hid
      rw [hL] at hL'; cases hL'
      obtain ⟨u, hu, hrep⟩ := hcells i e j c he hc
      exact ⟨u, by simp [World.cell?, hheap, hu], hrep⟩
    · rename_i es' hid
      simp at hr; subst hr
      obtain ⟨L', hL', hsz, hcells⟩ := W.obj id _ hid
      rw [hL] at hL'; cases hL'
      obtain ⟨_, _, u, hu, hrep⟩ := hcells i e j c he hc
      exact ⟨u, hu, hrep⟩
    · simp at hr
  | _ => simp [target] at ht

theorem cut_some {cs l : List AV} {off n : Nat} (h : cut cs off n = some l) : l.length = n ∧ ∀ (j : Nat) c, l[j]? = some c → cs[off + j]? = some c := by
  unfold cut at h
  split at h
  · rename_i hle
    simp at h; subst h
    refine ⟨by simp; omega, fun j c hc => ?_⟩
    rw [List.getElem?_take] at hc
    split at hc
    · rw [List.getElem?_drop] at hc; exact hc
    · simp at hc
  · simp at h

/-- Cells that lie side by side, read; in whatever world has the same cells. -/
theorem cells_run' (P : Program) (b o : Nat) (l : List AV) (h : ∀ (j : Nat) c, l[j]? = some c → ∃ u, w.cell? ⟨b, o + j, none⟩ = some u ∧ Rep E w c u) :
    ∃ vs : List Value, (∀ w' : World, (∀ a, w'.cell? a = w.cell? a) → (loadCells ⟨b, o, none⟩ l.length).run P w' = .ok vs.toArray w') ∧ Reps E w l vs ∧ ∀ (j : Nat) v, vs[j]? = some v → w.cell? ⟨b, o + j, none⟩ = some v := by
  have hvs : ∃ vs : List Value, vs.length = l.length ∧ ∀ (j : Nat) c v, l[j]? = some c → vs[j]? = some v → w.cell? ⟨b, o + j, none⟩ = some v ∧ Rep E w c v := by
    induction l generalizing o with
    | nil => exact ⟨[], rfl, by simp⟩
    | cons c l ih =>
      obtain ⟨u, hu, hr⟩ := h 0 c rfl
      obtain ⟨vs, hl, hvs⟩ := ih (o + 1) (fun j c' hc => by
        obtain ⟨u, hu, hr⟩ := h (j + 1) c' (by simpa using hc)
        exact ⟨u, by rw [show o + 1 + j = o + (j + 1) by omega]; exact hu, hr⟩)
      refine ⟨u :: vs, by simp [hl], fun j c' v h1 h2 => ?_⟩
      cases j with
      | zero => simp at h1 h2; subst h1 h2; exact ⟨hu, hr⟩
      | succ j =>
        have := hvs j c' v (by simpa using h1) (by simpa using h2)
        rw [show o + (j + 1) = o + 1 + j by omega]
        exact this
  obtain ⟨vs, hl, hvs⟩ := hvs
  have hcell : ∀ (j : Nat) v, vs[j]? = some v → w.cell? ⟨b, o + j, none⟩ = some v := fun j v hv => by
    have hj : j < l.length := by rw [← hl]; exact (List.getElem?_eq_some_iff.1 hv).1
    exact (hvs j l[j] v (by simp [hj]) hv).1
  refine ⟨vs, fun w' hw' => ?_, ⟨hl.symm, fun j c v h1 h2 => (hvs j c v h1 h2).2⟩, hcell⟩
  rw [← hl]
  exact run_loadCells_list (P := P) w' ⟨b, o, none⟩ vs (fun j v hv => by rw [add_at, hw']; exact hcell j v hv)

/-- Cells that lie side by side, read. -/
theorem cells_run (P : Program) (b o : Nat) (l : List AV) (h : ∀ (j : Nat) c, l[j]? = some c → ∃ u, w.cell? ⟨b, o + j, none⟩ = some u ∧ Rep E w c u) :
    ∃ vs : List Value, (loadCells ⟨b, o, none⟩ l.length).run P w = .ok vs.toArray w ∧ Reps E w l vs ∧ ∀ (j : Nat) v, vs[j]? = some v → w.cell? ⟨b, o + j, none⟩ = some v := by
  obtain ⟨vs, h1, h2, h3⟩ := cells_run' P b o l h
  exact ⟨vs, h1 w fun _ => rfl, h2, h3⟩

theorem run_isAgg {P : Program} {t : TypeId} {u : TypeDesc} (h : P.underlying t = some u) (w : World) :
    (isAgg t).run P w = .ok (match u with | .struct _ | .array _ _ => true | _ => false) w := by
  simp only [isAgg, Sem.run_bind, run_underlying h, Result.andThen_ok]
  cases u <;> rfl

theorem run_typeInfo {P : Program} {t : TypeId} {i : TypeInfo} (h : P.info? t = some i) (w : World) : (typeInfo t).run P w = .ok i w := by
  simp [typeInfo, program, Sem.run, h]

theorem run_sizeOf {P : Program} {t : TypeId} {i : TypeInfo} (h : P.info? t = some i) (w : World) : (sizeOf t).run P w = .ok i.size w := by
  simp [sizeOf, run_typeInfo h]

theorem run_zeroValue {P : Program} {t : TypeId} {i : TypeInfo} {z : Value} (h : P.info? t = some i) (hz : i.zero = some z) (w : World) : (zeroValue t).run P w = .ok z w := by
  simp [zeroValue, run_typeInfo h, hz]

theorem TyOk.size_run {P : Program} {t : TypeId} {d : TD} (h : TyOk P t d) (w : World) : (sizeOf t).run P w = .ok d.size w := by
  obtain ⟨i, zv, hi, hs, _⟩ := h.info
  rw [← hs]; exact run_sizeOf hi w
theorem TyOk.info_run {P : Program} {t : TypeId} {d : TD} (h : TyOk P t d) (w : World) : ∃ i, (typeInfo t).run P w = .ok i w ∧ i.size = d.size ∧ i.bytes = d.bytes := by
  obtain ⟨i, zv, hi, hs, hb, _⟩ := h.info
  exact ⟨i, run_typeInfo hi w, hs, hb⟩
theorem TyOk.zero_run {P : Program} {t : TypeId} {d : TD} (h : TyOk P t d) (E : Env) (w : World) : ∃ z, (∀ w', (zeroValue t).run P w' = .ok z w') ∧ Reps E w d.zero z.cells.toList ∧ d.zero.length = d.size := by
  obtain ⟨i, zv, hi, hs, hb, hz, hc, hl, _⟩ := h.info
  exact ⟨zv, fun w' => run_zeroValue hi hz w', absCs_rep E w _ _ hc, hl⟩

theorem TyOk.agg_run {P : Program} {t : TypeId} {d : TD} (h : TyOk P t d) (w : World) : (isAgg t).run P w = .ok d.kd.isAgg w := by
  obtain ⟨u, hu, hk⟩ := h.und
  rw [run_isAgg hu]
  cases hkd : d.kd <;> rw [hkd] at hk <;> simp only [KdOk] at hk
  case struct => obtain ⟨f, rfl, _⟩ := hk; rfl
  case func => obtain ⟨a, b, c, rfl⟩ := hk; rfl
  all_goals subst hk; rfl

theorem mkVal_agg {d : TD} {l : List AV} {r : AV} (h : mkVal d l = some r) : (d.kd.isAgg = true ∧ r = .agg l) ∨ (d.kd.isAgg = false ∧ l = [r]) := by
  unfold mkVal at h
  split at h
  · rename_i hk; simp at h; subst h; exact .inl ⟨by rw [hk]; rfl, rfl⟩
  · rename_i hk; simp at h; subst h; exact .inl ⟨by rw [hk]; rfl, rfl⟩
  · rename_i hk1 hk2
    simp at h; subst h
    refine .inr ⟨?_, rfl⟩
    cases hd : d.kd <;> first | rfl | exact absurd hd (hk1 _) | exact absurd hd (hk2 _ _)
  · simp at h

theorem load_ok (hC : COk C) (W : WRel C B w0 E σ w) {ty : TypeId} {a r : AV} {v : Value} (ha : Rep E w a v) (h : aLoad C σ ty a = some r) :
    ∃ v', (Instr.loadAt ty v).run C.P w = .ok v' w ∧ Rep E w r v' := by
  simp only [aLoad, Option.bind_eq_some_iff] at h
  obtain ⟨d, hd, ⟨cs, off⟩, ht, l, hl, hm⟩ := h
  have hty := hC.ty ty d hd
  obtain ⟨b, o, rfl, hcells⟩ := target_rep W ha ht
  obtain ⟨hlen, hcut⟩ := cut_some hl
  have hl' : ∀ (j : Nat) c, l[j]? = some c → ∃ u, w.cell? ⟨b, o + off + j, none⟩ = some u ∧ Rep E w c u := fun j c hc => by
    obtain ⟨u, hu, hr⟩ := hcells (off + j) c (hcut j c hc)
    exact ⟨u, by rw [Nat.add_assoc]; exact hu, hr⟩
  rcases mkVal_agg hm with ⟨hag, rfl⟩ | ⟨hag, rfl⟩
  · obtain ⟨vs, hrun, hreps, _⟩ := cells_run C.P b (o + off) l hl'
    rw [hlen] at hrun
    refine ⟨.agg vs.toArray, ?_, .agg l vs hreps.1 hreps.2⟩
    simp [Instr.loadAt, Instr.sureAddr, loadVar, hty.agg_run, hag, hty.size_run, hrun]
  · obtain ⟨u, hu, hr⟩ := hl' 0 r rfl
    refine ⟨u, ?_, hr⟩
    simp only [Nat.add_zero] at hu
    simp [Instr.loadAt, Instr.sureAddr, loadVar, hty.agg_run, hag, hu]

/-! Addresses -/
theorem fields_at {fs : List (Nat × TypeId)} {fields : Array Field} (h : fields.toList.map (fun f => (f.offset, f.type)) = fs) {i o : Nat} {ft : TypeId} (hi : fs[i]? = some (o, ft)) :
    ∃ f, fields[i]? = some f ∧ f.offset = o ∧ f.type = ft := by
  subst h
  simp only [List.getElem?_map, Option.map_eq_some_iff, Prod.mk.injEq] at hi
  obtain ⟨f, hf, rfl, rfl⟩ := hi
  exact ⟨f, by simpa using hf, rfl, rfl⟩


theorem fieldAddr_ok (hC : COk C) {ty : TypeId} {x r : AV} {f : Nat} {v : Value} (hx : Rep E w x v) (h : aFieldAddr C ty x f = some r) :
    ∃ v', (Instr.fieldAt ty v f).run C.P w = .ok v' w ∧ Rep E w r v' := by
  simp only [aFieldAddr, Option.bind_eq_some_iff] at h
  obtain ⟨d, hd, h⟩ := h
  obtain ⟨u, hu, hk⟩ := (hC.ty ty d hd).und
  split at h
  · rename_i fs hkd
    rw [hkd] at hk
    obtain ⟨fields, rfl, hfs⟩ := hk
    simp only [Option.bind_eq_some_iff] at h
    obtain ⟨⟨o, ft⟩, ho, df, hdf, h⟩ := h
    obtain ⟨fl, hfl, rfl, rfl⟩ := fields_at hfs ho
    split at h
    · simp at h
    · rename_i hsz
      have hsr := (hC.ty fl.type df hdf).size_run w
      split at h
      · rename_i id i off
        simp at h; subst h
        cases hx with
        | ptr _ _ _ L hL =>
          refine ⟨.pointer (some ⟨L.b, L.o + i * L.sz + (off + fl.offset), none⟩), ?_, .ptr id i (off + fl.offset) L hL⟩
          simp [Instr.fieldAt, run_underlying hu, hfl, Instr.sureAddr, fieldPlace, hsr, hsz, add_at, Nat.add_assoc]
      · rename_i es i off
        simp at h; subst h
        cases hx with
        | pp _ _ _ b o sz vs h1 h2 h3 =>
          refine ⟨.pointer (some ⟨b, o + i * sz + (off + fl.offset), none⟩), ?_, .pp es i (off + fl.offset) b o sz vs h1 h2 h3⟩
          simp [Instr.fieldAt, run_underlying hu, hfl, Instr.sureAddr, fieldPlace, hsr, hsz, add_at, Nat.add_assoc]
      · simp at h
  · simp at h

theorem part_ok (hC : COk C) {ft : TypeId} {df : TD} (hdf : C.D ft = some df) {cs l : List AV} {vs : List Value} {o : Nat} {r : AV} (hr : Reps E w cs vs) (hl : cut cs o df.size = some l) (hm : mkVal df l = some r) :
    ∃ v', (part ft vs.toArray o).run C.P w = .ok v' w ∧ Rep E w r v' := by
  have hty := hC.ty ft df hdf
  obtain ⟨hlen, hcut⟩ := cut_some hl
  rcases mkVal_agg hm with ⟨hag, rfl⟩ | ⟨hag, rfl⟩
  · refine ⟨.agg ((vs.drop o).take df.size).toArray, ?_, .agg l _ ?_ ?_⟩
    · simp [part, hty.agg_run, hag, hty.size_run]
    · unfold cut at hl
      split at hl
      · simp; rw [← hr.1]; omega
      · simp at hl
    · intro j a v h1 h2
      rw [List.getElem?_take] at h2
      split at h2
      · rw [List.getElem?_drop] at h2
        exact hr.2 (o + j) a v (hcut j a h1) h2
      · simp at h2
  · have h0 := hcut 0 r rfl
    simp only [Nat.add_zero] at h0
    have ho : o < vs.length := by rw [← hr.1]; exact (List.getElem?_eq_some_iff.1 h0).1
    refine ⟨vs[o], ?_, hr.2 o r vs[o] h0 (by simp [ho])⟩
    simp [part, hty.agg_run, hag, ho]

theorem field_ok (hC : COk C) {ty : TypeId} {x r : AV} {f : Nat} {v : Value} (hx : Rep E w x v) (h : aField C ty x f = some r) :
    ∃ v', (Instr.field ty v f).run C.P w = .ok v' w ∧ Rep E w r v' := by
  simp only [aField, Option.bind_eq_some_iff] at h
  obtain ⟨d, hd, h⟩ := h
  obtain ⟨u, hu, hk⟩ := (hC.ty ty d hd).und
  split at h
  · rename_i fs hkd
    rw [hkd] at hk
    obtain ⟨fields, rfl, hfs⟩ := hk
    simp only [Option.bind_eq_some_iff] at h
    obtain ⟨⟨o, ft⟩, ho, h⟩ := h
    obtain ⟨fl, hfl, rfl, rfl⟩ := fields_at hfs ho
    split at h
    · rename_i cs
      simp only [Option.bind_eq_some_iff] at h
      obtain ⟨df, hdf, l, hl, hm⟩ := h
      cases hx with
      | agg _ vs hl' hv =>
        obtain ⟨v', hrun, hrep⟩ := part_ok hC hdf ⟨hl', hv⟩ hl hm
        exact ⟨v', by simp [Instr.field, run_underlying hu, hfl, asAgg, hrun], hrep⟩
    · simp at h
  · simp at h

theorem index_ok (hC : COk C) {ty : TypeId} {x i r : AV} {v vi : Value} (hx : Rep E w x v) (hi : Rep E w i vi) (h : aIndex C ty x i = some r) :
    ∃ v', (Instr.index ty v vi).run C.P w = .ok v' w ∧ Rep E w r v' := by
  unfold aIndex at h
  split at h
  · rename_i k n
    cases hi
    split at h
    · simp at h
    · rename_i hn
      have hn' : 0 ≤ n := by omega
      simp only [Option.bind_eq_some_iff] at h
      obtain ⟨d, hd, h⟩ := h
      obtain ⟨u, hu, hk⟩ := (hC.ty ty d hd).und
      split at h
      · rename_i l hkd
        rw [hkd] at hk
        simp only [KdOk] at hk; subst hk
        simp only [Option.map_eq_some_iff] at h
        obtain ⟨b, hb, rfl⟩ := h
        cases hx
        refine ⟨.int .u8 b.toNat, ?_, .int _ _⟩
        have hlt := (List.getElem?_eq_some_iff.1 hb).1
        have hb' : (ByteArray.mk l.toArray)[n.toNat]? = some b := by
          have hs : n.toNat < (ByteArray.mk l.toArray).size := by simpa [ByteArray.size] using hlt
          rw [getElem?_pos (ByteArray.mk l.toArray) n.toNat hs]
          simp only [List.getElem?_eq_getElem hlt, Option.some.injEq] at hb
          rw [← hb]; rfl
        simp [Instr.index, asIntOf, run_underlying hu, hn', hb']
      · rename_i len e cs hkd
        rw [hkd] at hk
        simp only [KdOk] at hk; subst hk
        split at h
        · rename_i hlt
          simp only [Option.bind_eq_some_iff] at h
          obtain ⟨de, hde, l, hl, hm⟩ := h
          cases hx with
          | agg _ vs hl' hv =>
            obtain ⟨v', hrun, hrep⟩ := part_ok hC hde ⟨hl', hv⟩ hl hm
            exact ⟨v', by simp [Instr.index, asIntOf, run_underlying hu, hn', hlt, (hC.ty e de hde).size_run, hrun], hrep⟩
        · simp at h
      · simp at h
  · simp at h

theorem indexAddr_ok (hC : COk C) {ty : TypeId} {x i r : AV} {v vi : Value} (W : WRel C B w0 E σ w) (hx : Rep E w x v) (hi : Rep E w i vi) (h : aIndexAddr C ty σ x i = some r) :
    ∃ v', (Instr.indexAt ty v vi).run C.P w = .ok v' w ∧ Rep E w r v' := by
  unfold aIndexAddr at h
  split at h
  · rename_i k n
    cases hi
    split at h
    · simp at h
    · rename_i hn
      have hn' : 0 ≤ n := by omega
      simp only [Option.bind_eq_some_iff] at h
      obtain ⟨d, hd, h⟩ := h
      obtain ⟨u, hu, hk⟩ := (hC.ty ty d hd).und
      split at h
      · rename_i e es tl hkd
        rw [hkd] at hk
        simp only [KdOk] at hk; subst hk
        simp only [Option.bind_eq_some_iff] at h
        obtain ⟨de, hde, g, hg, h⟩ := h
        split at h
        · rename_i hgl
          simp at h; subst h
          cases hx with
          | list _ _ A cap ad sz vs hc hA hs hsz hcell hrep ht =>
            have hlt := (List.getElem?_eq_some_iff.1 hg).1
            have hA' := hA (by intro h; simp [h] at hlt)
            subst hA'
            have hlt' : n < (es.length : Int) := by omega
            have hszz : sz = de.size := by rw [← hgl]; exact (hsz _ g hg).symm
            have had := addr_eta hs
            refine ⟨.pointer (some ⟨ad.block, ad.off + n.toNat * sz + 0, none⟩), ?_, .pp es n.toNat 0 ad.block ad.off sz vs hsz hcell hrep⟩
            rw [had]
            simp [Instr.indexAt, asIntOf, run_underlying hu, hn', hlt', (hC.ty e de hde).size_run, add_at, hszz]
        · simp at h
      · rename_i e id off m hkd
        rw [hkd] at hk
        simp only [KdOk] at hk; subst hk
        split at h
        · rename_i hlt
          simp only [Option.bind_eq_some_iff] at h
          obtain ⟨de, hde, es, hes, g, hg, h⟩ := h
          split at h
          · rename_i hgl
            simp at h; subst h
            cases hx with
            | sl _ _ _ cap ad L hL hc hA =>
              have hszz : L.sz = de.size := by
                rw [← hgl]
                unfold rowOf at hes
                split at hes
                · rename_i es' hid
                  simp at hes; subst hes
                  obtain ⟨L', cc, ety, hL', hB, hheap, hsz, _⟩ := W.obj id _ hid
                  rw [hL] at hL'; cases hL'
                  exact (hsz _ g hg).symm
                · rename_i es' hid
                  simp at hes; subst hes
                  obtain ⟨L', hL', hsz, hcells⟩ := W.obj id _ hid
                  rw [hL] at hL'; cases hL'
                  exact (hsz _ g hg).symm
                · simp at hes
              rcases hA with hA | ⟨rfl, hA⟩
              · omega
              · refine ⟨.pointer (some ⟨L.b, L.o + (off + n.toNat) * L.sz + 0, none⟩), ?_, .ptr id (off + n.toNat) 0 L hL⟩
                simp [Instr.indexAt, asIntOf, run_underlying hu, hn', hlt, (hC.ty e de hde).size_run, add_at, hszz, Nat.add_mul, Nat.add_assoc]
          · simp at h
        · simp at h
      · rename_i len e id j o hkd
        rw [hkd] at hk
        simp only [KdOk] at hk; subst hk
        simp only [Option.bind_eq_some_iff] at h
        obtain ⟨de, hde, h⟩ := h
        split at h
        · rename_i hlt
          simp at h; subst h
          cases hx with
          | ptr _ _ _ L hL =>
            refine ⟨.pointer (some ⟨L.b, L.o + j * L.sz + (o + n.toNat * de.size), none⟩), ?_, .ptr id j _ L hL⟩
            simp [Instr.indexAt, asIntOf, run_underlying hu, hn', hlt, (hC.ty e de hde).size_run, Instr.sureAddr, add_at, Nat.add_assoc]
        · simp at h
      · rename_i len e es j o hkd
        rw [hkd] at hk
        simp only [KdOk] at hk; subst hk
        simp only [Option.bind_eq_some_iff] at h
        obtain ⟨de, hde, h⟩ := h
        split at h
        · rename_i hlt
          simp at h; subst h
          cases hx with
          | pp _ _ _ b o' sz vs h1 h2 h3 =>
            refine ⟨.pointer (some ⟨b, o' + j * sz + (o + n.toNat * de.size), none⟩), ?_, .pp es j _ b o' sz vs h1 h2 h3⟩
            simp [Instr.indexAt, asIntOf, run_underlying hu, hn', hlt, (hC.ty e de hde).size_run, Instr.sureAddr, add_at, Nat.add_assoc]
        · simp at h
      · simp at h
  · simp at h

end
end Go.W
