/- append: what it does is what the evaluator says. Conditions: those of the abstract operation. -/
import Derived.Test.YtjnomlphjnnbnaaGreatDoorW9
set_option linter.unusedVariables false
set_option linter.unusedSimpArgs false
namespace Go.W
open Go.RowKit (Below)

theorem askRoom_run (P : Program) (n : Nat) (w : World) : (askRoom n).run P w = .ok () w := by
  unfold askRoom mark
  split <;> rfl

theorem grow_le (need : Nat) (h : 257 ≤ need) : ∀ r c, c ≤ 2 * need → Builtin.growBy need r c ≤ 2 * need
  | 0, c, hc => by simpa [Builtin.growBy] using hc
  | r + 1, c, hc => by
    unfold Builtin.growBy
    split
    · exact hc
    · exact grow_le need h r _ (by omega)
theorem next_le {need cap : Nat} (h : cap < need) : Builtin.nextslicecap need cap ≤ 2 * need := by
  unfold Builtin.nextslicecap
  split
  · omega
  · split
    · omega
    · exact grow_le need (by omega) 4 cap (by omega)

section
variable {C : Ctx} {B : Nat} {w0 : World} {E : Env} {σ : AS} {w : World}

theorem lenOf_run (P : Program) (W : WRel C B w0 E σ w) {x : AV} {v : Value} {es : List (List AV)} (hx : Rep E w x v) (he : elems σ x = some es) : (Builtin.lenOf v).run P w = .ok es.length w := by
  obtain ⟨A, cap, ad, sz, rfl, _⟩ := elems_rep W hx he
  rfl

/-- Of the second argument: how many elements, and their cells. -/
structure Src (C : Ctx) (w : World) (t2 : TypeId) (v : Value) (sz n : Nat) (nv : List Value) : Prop where
  kind : ∃ u, C.P.underlying t2 = some u ∧ ∀ k, u ≠ .int k
  len : ∀ w', (Builtin.lenOf v).run C.P w' = .ok n w'
  cells : (Builtin.firstCells sz n v).run C.P w = .ok nv.toArray w
  drew : (Builtin.firstCells sz n v).run C.P w.drew = .ok nv.toArray w.drew

theorem int_match (u : TypeDesc) (h : ∀ k, u ≠ .int k) : (u matches .int _) = false := by cases u <;> first | rfl | exact absurd rfl (h _)

theorem append_same {t t2 rt e : TypeId} {de : TD} (hC : COk C) (ht : C.P.underlying t = some (.slice e)) (hde : C.D e = some de) {A : Option Addr} {n cap : Nat} (hnc : n ≤ cap) {vx : Value} (hs : Src C w t2 vx de.size 0 [])
    : (Builtin.append_ #[t, t2] rt #[.slice A n cap, vx]).run C.P w = .ok (.slice A n cap) w := by
  obtain ⟨u, hu, hk⟩ := hs.kind
  have hty := hC.ty e de hde
  have hcells := hs.cells
  have hz := int_match u hk
  cases A with
  | none =>
    simp only [Builtin.append_, Sem.run_bind, run_underlying ht, Result.andThen_ok, hty.size_run, List.getElem?_toArray, List.getElem?_cons_zero, List.getElem?_cons_succ, run_underlying hu, Sem.run_pure, hz, Bool.false_eq_true, if_false, hs.len, Nat.add_zero, if_pos hnc]
    simp [hcells]
  | some a =>
    simp only [Builtin.append_, Sem.run_bind, run_underlying ht, Result.andThen_ok, hty.size_run, List.getElem?_toArray, List.getElem?_cons_zero, List.getElem?_cons_succ, run_underlying hu, Sem.run_pure, hz, Bool.false_eq_true, if_false, hs.len, Nat.add_zero, if_pos hnc]
    simp [hcells, storeCells]

theorem append_in {t t2 rt e : TypeId} {de : TD} (hC : COk C) (ht : C.P.underlying t = some (.slice e)) (hde : C.D e = some de) {b o n m cap : Nat} (hnc : n + m ≤ cap) {vx : Value} {nv : List Value} (hs : Src C w t2 vx de.size m nv)
    {c : Array Value} {ce : TypeId} (hh : w.heap[b]? = some (.cells c ce (0, 0))) (hl : nv.length = m * de.size) (hle : o + (n + m) * de.size ≤ c.size) (h1 : ∀ v ∈ nv, v.oneCell' = true) :
    (Builtin.append_ #[t, t2] rt #[.slice (some ⟨b, o, none⟩) n cap, vx]).run C.P w =
      .ok (.slice (some ⟨b, o, none⟩) (n + m) cap) (w.setRow b (c.toList.take (o + n * de.size) ++ nv ++ c.toList.drop (o + n * de.size + nv.length)).toArray) := by
  obtain ⟨u, hu, hk⟩ := hs.kind
  have hty := hC.ty e de hde
  have hcells := hs.cells
  have hz := int_match u hk
  have hst := run_storeCells_at (P := C.P) b (o + n * de.size) ce nv 0 c w hh (by rw [Nat.add_mul] at hle; omega) h1
  simp only [Nat.add_zero] at hst
  simp only [Builtin.append_, Sem.run_bind, run_underlying ht, Result.andThen_ok, hty.size_run, List.getElem?_toArray, List.getElem?_cons_zero, List.getElem?_cons_succ, run_underlying hu, Sem.run_pure, hz, Bool.false_eq_true, if_false, hs.len, if_pos hnc]
  simp [hcells, add_at, hst]

theorem append_new {t t2 rt e : TypeId} {de : TD} (hC : COk C) (ht : C.P.underlying t = some (.slice e)) (hde : C.D e = some de) {A : Option Addr} {n m cap : Nat} (hnc : cap < n + m) {vx : Value} {nv ov : List Value} (hs : Src C w t2 vx de.size m nv)
    (hov : (Builtin.firstCells de.size n (.slice A n cap)).run C.P w.drew = .ok ov.toArray w.drew) (hroom : (n + m) * de.bytes ≤ room) (hb : 0 < de.bytes) :
    ∃ newCap rest, n + m ≤ newCap ∧ rest.size = (newCap - (n + m)) * de.size ∧ (Builtin.append_ #[t, t2] rt #[.slice A n cap, vx]).run C.P w =
      .ok (.slice (some ⟨w.heap.size, 0, none⟩) (n + m) newCap) (w.drew.alloc (.cells (ov.toArray ++ nv.toArray ++ rest) e)) := by
  obtain ⟨u, hu, hk⟩ := hs.kind
  have hty := hC.ty e de hde
  have hz := int_match u hk
  obtain ⟨i, hi, his, hib⟩ := hty.info_run w
  obtain ⟨i', hi', his', hib'⟩ := hty.info_run w.drew
  obtain ⟨z, hzr, hzreps, hzl⟩ := hty.zero_run (⟨fun _ => none, fun _ _ => False⟩ : Env) w
  have hzs : z.cells.size = de.size := by have := hzreps.1; simp at this; omega
  have hneed : n + m ≤ room := Nat.le_trans (Nat.le_mul_of_pos_right _ hb) hroom
  have c1 : ¬ (n + m ≤ cap) := by omega
  have c2 : ¬ (((n + m : Nat) : Int) > IntKind.i64.max ∧ (False ∨ i.bytes = 0)) := by
    intro h; rw [hib] at h; rcases h.2 with h | h
    · exact h
    · omega
  have c3 : ¬ (Builtin.nextslicecap (n + m) cap * i.bytes > 2 ^ 48) := by
    rw [hib]
    have h1 := next_le hnc
    have h2 : Builtin.nextslicecap (n + m) cap * de.bytes ≤ 2 * (n + m) * de.bytes := Nat.mul_le_mul_right _ h1
    rw [Nat.mul_assoc] at h2
    unfold room at hroom; omega
  refine ⟨(Question.appendCap (n + m) cap e).cut (w.tape w.drawn (.appendCap (n + m) cap e)), Builtin.zeroCells z.cells ((Question.appendCap (n + m) cap e).cut (w.tape w.drawn (.appendCap (n + m) cap e)) - (n + m)), ?_, ?_, ?_⟩
  · simp [Question.cut]
  · simp [Builtin.zeroCells, hzs]
  · have hch : (choose (.appendCap (n + m) cap e)).run C.P w = .ok ((Question.appendCap (n + m) cap e).cut (w.tape w.drawn (.appendCap (n + m) cap e))) w.drew := by
      rfl
    simp only [Builtin.append_, Sem.run_bind, run_underlying ht, Result.andThen_ok, hty.size_run, List.getElem?_toArray, List.getElem?_cons_zero, List.getElem?_cons_succ, run_underlying hu, Sem.run_pure, Bool.false_eq_true, if_false, hs.len, if_neg c1]
    simp only [hz, Bool.false_eq_true, if_false, hi, Sem.run_bind, Result.andThen_ok, if_neg c3]
    rw [if_neg c2]
    simp only [Sem.run_bind, hi, Result.andThen_ok, if_neg c3, hch, hi', askRoom_run, hov, Bool.not_false, if_true, hs.drew, hzr]
    simp [newRow]
    rfl

theorem ext_drew (E : Env) (w : World) : Ext E w E w.drew := ⟨fun _ _ h => h, fun _ _ h => h, fun _ _ _ => rfl⟩
theorem WRel.drew (W : WRel C B w0 E σ w) : WRel C B w0 E σ w.drew :=
  ⟨W.below.drew, W.size, W.imm, fun id o h => (W.obj id o h).mono (ext_drew E w) (fun _ _ _ => rfl) (fun _ _ _ _ h => h), W.inj, W.fresh, fun g cs h => (W.glob g cs h).mono (ext_drew E w)⟩

/-- Of what is dead nothing is said. -/
theorem WRel.kill (W : WRel C B w0 E σ w) (id : Nat) : WRel C B w0 E (σ.set id .dead) w := by
  constructor
  · exact W.below
  · exact W.size
  · exact W.imm
  · intro k o h
    rcases set_get h with ⟨_, rfl⟩ | ⟨_, h⟩
    · trivial
    · exact W.obj k o h
  · intro i1 i2 o1 o2 L1 L2 h1 h2 a1 a2
    rcases set_get h1 with ⟨_, rfl⟩ | ⟨_, h1⟩
    · simp [alive] at a1
    · rcases set_get h2 with ⟨_, rfl⟩ | ⟨_, h2⟩
      · simp [alive] at a2
      · exact W.inj i1 i2 o1 o2 L1 L2 h1 h2 a1 a2
  · intro k hk; simp at hk; exact W.fresh k hk
  · exact W.glob

theorem ext_add (W : WRel C B w0 E σ w) (L : Loc) : Ext E w (E.bind σ.length L) w :=
  ⟨fun id L' h => by
    have : id ≠ σ.length := by rintro rfl; rw [W.fresh _ (Nat.le_refl _)] at h; cases h
    simp [Env.bind, this, h], fun _ _ h => h, fun _ _ _ => rfl⟩

/-- Nobody who is alive lies in this block. -/
def Free (E : Env) (σ : AS) (b : Nat) : Prop := ∀ (id : Nat) (o : AObj) (L : Loc), σ[id]? = some o → alive o = true → E.μ id = some L → L.b ≠ b

theorem WRel.free_new (W : WRel C B w0 E σ w) {b : Nat} (h : w.heap.size ≤ b) : Free E σ b := fun id o L h1 h2 h3 => by have := (W.block_lt h1 h2 h3).1; omega

theorem WRel.free_kill (W : WRel C B w0 E σ w) {id : Nat} {o : AObj} (h : σ[id]? = some o) (ha : alive o = true) {L : Loc} (hL : E.μ id = some L) : Free E (σ.set id .dead) L.b := fun k o' L' h1 h2 h3 hb => by
  rcases set_get h1 with ⟨_, rfl⟩ | ⟨hne, h1⟩
  · simp [alive] at h2
  · exact hne (W.inj id k o o' L L' h h1 ha h2 hL h3 hb.symm)

/-- A new object of the store in a block that is there. -/
theorem WRel.add (W : WRel C B w0 E σ w) (L : Loc) (ob : AObj) (hob : ObjRel (E.bind σ.length L) w B σ.length ob) (hf : Free E σ L.b) : WRel C B w0 (E.bind σ.length L) (σ ++ [ob]) w := by
  have x := ext_add W L
  have hold : ∀ (id : Nat) (ob' : AObj), σ[id]? = some ob' → (E.bind σ.length L).μ id = E.μ id := fun id ob' h => by
    have := (List.getElem?_eq_some_iff.1 h).1
    simp [Env.bind, show id ≠ σ.length by omega]
  have part : ∀ (id : Nat) (o : AObj), (σ ++ [ob])[id]? = some o → σ[id]? = some o ∨ (id = σ.length ∧ o = ob) := fun id o h => by
    by_cases hid : id < σ.length
    · rw [List.getElem?_append_left hid] at h; exact .inl h
    · rw [List.getElem?_append_right (by omega)] at h
      have h1 := (List.getElem?_eq_some_iff.1 h).1
      have he : id = σ.length := by simp at h1; omega
      subst he
      simp at h; exact .inr ⟨rfl, h.symm⟩
  constructor
  · exact W.below
  · exact W.size
  · exact W.imm
  · intro id o h
    rcases part id o h with h | ⟨rfl, rfl⟩
    · exact (W.obj id o h).mono x (fun _ _ _ => rfl) (fun _ _ _ _ h => h)
    · exact hob
  · intro i1 i2 o1 o2 L1 L2 h1 h2 a1 a2 hL1 hL2 hb
    rcases part i1 o1 h1 with g1 | ⟨rfl, rfl⟩
    · rw [hold i1 o1 g1] at hL1
      rcases part i2 o2 h2 with g2 | ⟨rfl, rfl⟩
      · rw [hold i2 o2 g2] at hL2
        exact W.inj i1 i2 o1 o2 L1 L2 g1 g2 a1 a2 hL1 hL2 hb
      · simp [Env.bind] at hL2; subst hL2
        exact absurd hb (hf i1 o1 L1 g1 a1 hL1)
    · simp [Env.bind] at hL1; subst hL1
      rcases part i2 o2 h2 with g2 | ⟨rfl, rfl⟩
      · rw [hold i2 o2 g2] at hL2
        exact absurd hb.symm (hf i2 o2 L2 g2 a2 hL2)
      · rfl
  · intro id h
    simp at h
    simp [Env.bind, show id ≠ σ.length by omega]
    exact W.fresh id (by omega)
  · intro g cs h; exact (W.glob g cs h).mono x

/-- Cells written in a block in which nobody who is alive lies, none of them a cell that must stay; some are to stay from now on. -/
theorem WRel.setFree (W : WRel C B w0 E σ w) {b : Nat} {c c' : Array Value} {e : TypeId} (hB : B ≤ b) (hh : w.heap[b]? = some (.cells c e (0, 0))) (hs : c'.size = c.size) (hf : Free E σ b) (hI : ∀ o, E.I b o → c'[o]? = c[o]?) (p : Nat → Prop) :
    WRel C B w0 (E.imm b p) σ (w.setRow b c') ∧ Ext E w (E.imm b p) (w.setRow b c') := by
  have x : Ext E w (E.imm b p) (w.setRow b c') := ⟨fun _ _ h => h, fun _ _ h => .inl h, fun b' o h => by
    by_cases hb : b' = b
    · subst hb
      rw [cell_setRow_same w b' o c c' e (0, 0) hh, hI o h]
      simp [World.cell?, hh]
    · exact cell_setRow_other w b c' _ hb⟩
  refine ⟨?_, x⟩
  constructor
  · exact W.below.trans ⟨rfl, rfl, rfl, by simp, fun k hk => setRow_other w b k c' (by omega)⟩
  · simp; exact W.size
  · intro b' o h
    rcases h with h | ⟨rfl, _⟩
    · have := W.imm b' o h; simpa using this
    · simp; exact (Array.getElem?_eq_some_iff.1 hh).1
  · intro id o h
    refine (W.obj id o h).mono x (fun L hL ha => setRow_other w b _ c' (hf id o L h ha hL)) (fun L ofs hL ha h' => ?_)
    rcases h' with h' | ⟨h', _⟩
    · exact h'
    · exact absurd h' (hf id o L h ha hL)
  · exact W.inj
  · exact W.fresh
  · intro g cs h; exact (W.glob g cs h).mono x

theorem cleanEls_rep : ∀ {l c : List (List AV)} {vs : List Value}, Reps E w l.flatten vs → cleanEls l = some c → Reps E w c.flatten vs ∧ (∀ a ∈ c.flatten, a.pure = true) ∧ c.length = l.length ∧ (∀ sz, (∀ (i : Nat) (e : List AV), l[i]? = some e → e.length = sz) → ∀ (i : Nat) (e : List AV), c[i]? = some e → e.length = sz)
  | [], c, vs, h, hc => by simp [cleanEls] at hc; subst hc; exact ⟨h, by simp, rfl, by simp⟩
  | e :: l, c, vs, h, hc => by
    simp only [cleanEls] at hc
    split at hc
    · rename_i x xs hx hxs
      simp at hc; subst hc
      simp only [List.flatten_cons] at h
      have hlen := h.1
      simp only [List.length_append] at hlen
      have h1 : Reps E w e (vs.take e.length) := by
        have := h.take e.length
        simpa using this
      have h2 : Reps E w l.flatten (vs.drop e.length) := by
        have := h.drop e.length
        simpa using this
      obtain ⟨r1, r2, r3⟩ := cleanAll_rep h1 hx
      obtain ⟨q1, q2, q3, q4⟩ := cleanEls_rep h2 hxs
      refine ⟨?_, ?_, by simp [q3], fun sz hsz i g hg => ?_⟩
      · have := Reps.append r1 q1
        rw [List.take_append_drop] at this
        simpa using this
      · simp only [List.flatten_cons, List.mem_append]
        rintro a (ha | ha)
        · exact r2 a ha
        · exact q2 a ha
      · cases i with
        | zero => simp at hg; subst hg; rw [r3]; exact hsz 0 e rfl
        | succ i => exact q4 sz (fun k e' hk => hsz (k + 1) e' (by simpa using hk)) i g (by simpa using hg)
    · simp at hc
end
end Go.W
