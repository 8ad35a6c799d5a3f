/- New rows, new pure slices, cells written: the store keeps telling what the world holds. Conditions: those of the abstract operation. -/
import Derived.Test.YtjnomlphjnnbnaaGreatDoorW7
set_option linter.unusedVariables false
namespace Go.W
open Go.RowKit (Below)

section
variable {C : Ctx} {B : Nat} {w0 : World} {E : Env} {σ : AS} {w : World}

theorem ObjRel.mono {E' : Env} {w' : World} {id : Nat} {o : AObj} (h : ObjRel E w B id o) (x : Ext E w E' w')
    (hb : ∀ L, E.μ id = some L → alive o = true → w'.heap[L.b]? = w.heap[L.b]?) (hI : ∀ L ofs, E.μ id = some L → alive o = true → E'.I L.b ofs → E.I L.b ofs) : ObjRel E' w' B id o := by
  cases o with
  | row es =>
    obtain ⟨L, c, e, hL, hB, hh, h1, h2, h3, h4, h5⟩ := h
    refine ⟨L, c, e, x.μ _ _ hL, hB, (hb L hL rfl).trans hh, h1, h2, h3, fun i g j a hg hj => ?_, fun o ho => h5 o (hI L o hL rfl ho)⟩
    obtain ⟨v, hv, hr⟩ := h4 i g j a hg hj
    exact ⟨v, hv, hr.mono x⟩
  | ro es =>
    obtain ⟨L, hL, h1, h2⟩ := h
    refine ⟨L, x.μ _ _ hL, h1, fun i g j a hg hj => ?_⟩
    obtain ⟨hi, hp, v, hv, hr⟩ := h2 i g j a hg hj
    exact ⟨x.I _ _ hi, hp, v, (x.keep _ _ hi).trans hv, hr.mono x⟩
  | tok z =>
    obtain ⟨L, c, e, hL, hz, hB, hh, h1, h2⟩ := h
    exact ⟨L, c, e, x.μ _ _ hL, hz, hB, (hb L hL rfl).trans hh, h1, fun o ho hi => h2 o ho (hI L o hL rfl hi)⟩
  | map es =>
    obtain ⟨L, ms, ck, hL, hB, hh, h1, h2⟩ := h
    refine ⟨L, ms, ck, x.μ _ _ hL, hB, (hb L hL rfl).trans hh, h1, fun i k a m hk hm => ?_⟩
    obtain ⟨r1, r2⟩ := h2 i k a m hk hm
    exact ⟨r1.mono x, r2.mono x⟩
  | dead => trivial

/-- An object that is alive lies in a block that is there. -/
theorem WRel.block_lt (W : WRel C B w0 E σ w) {id : Nat} {o : AObj} (h : σ[id]? = some o) (ha : alive o = true) {L : Loc} (hL : E.μ id = some L) : L.b < w.heap.size ∧ B ≤ L.b := by
  have := W.obj id o h
  cases o with
  | row es =>
    obtain ⟨L', c, e, hL', hB, hh, _⟩ := this
    rw [hL] at hL'; cases hL'
    exact ⟨(Array.getElem?_eq_some_iff.1 hh).1, hB⟩
  | tok z =>
    obtain ⟨L', c, e, hL', hz, hB, hh, _⟩ := this
    rw [hL] at hL'; cases hL'
    exact ⟨(Array.getElem?_eq_some_iff.1 hh).1, hB⟩
  | map es =>
    obtain ⟨L', c, e, hL', hB, hh, _⟩ := this
    rw [hL] at hL'; cases hL'
    exact ⟨(Array.getElem?_eq_some_iff.1 hh).1, hB⟩
  | ro es => simp [alive] at ha
  | dead => simp [alive] at ha

theorem below_alloc (W : WRel C B w0 E σ w) (o : Obj) : Below B w0 (w.alloc o) := W.below.alloc W.size o

/-- A new block lies in the world; 'id' names it, if it is told. -/
def Env.bind (E : Env) (id : Nat) (L : Loc) : Env := { E with μ := fun k => if k = id then some L else E.μ k }
def Env.imm (E : Env) (b : Nat) (p : Nat → Prop) : Env := { E with I := fun b' o => E.I b' o ∨ (b' = b ∧ p o) }

theorem ext_bind (W : WRel C B w0 E σ w) (L : Loc) (o : Obj) : Ext E w (E.bind σ.length L) (w.alloc o) :=
  ⟨fun id L' h => by
    have : id ≠ σ.length := by rintro rfl; rw [W.fresh _ (Nat.le_refl _)] at h; cases h
    simp [Env.bind, this, h], fun _ _ h => h, fun b o h => World.cell?_alloc_lt w _ _ (W.imm b o h)⟩

theorem ext_imm (W : WRel C B w0 E σ w) (p : Nat → Prop) (o : Obj) : Ext E w (E.imm w.heap.size p) (w.alloc o) :=
  ⟨fun id L' h => h, fun _ _ h => .inl h, fun b o h => World.cell?_alloc_lt w _ _ (W.imm b o h)⟩

/-- A new object of the store, in a new block. -/
theorem WRel.new (W : WRel C B w0 E σ w) (L : Loc) (hLb : L.b = w.heap.size) (o : Obj) (ob : AObj) (hob : ObjRel (E.bind σ.length L) (w.alloc o) B σ.length ob) :
    WRel C B w0 (E.bind σ.length L) (σ ++ [ob]) (w.alloc o) := by
  have x := ext_bind W L o
  have hold : ∀ id ob', σ[id]? = some ob' → (E.bind σ.length L).μ id = E.μ id := fun id ob' h => by
    have := (List.getElem?_eq_some_iff.1 h).1
    simp [Env.bind, show id ≠ σ.length by omega]
  constructor
  · exact below_alloc W o
  · simp; have := W.size; omega
  · intro b o' h; have := W.imm b o' h; simp; omega
  · intro id ob' h
    by_cases hid : id < σ.length
    · rw [List.getElem?_append_left hid] at h
      refine (W.obj id ob' h).mono x (fun L' hL' ha => ?_) (fun _ _ _ _ h => h)
      exact Below.heap_alloc w o _ (W.block_lt h ha hL').1
    · rw [List.getElem?_append_right (by omega)] at h
      have hid' : id = σ.length := by
        have := (List.getElem?_eq_some_iff.1 h).1
        simp at this; omega
      subst hid'
      simp at h; subst h; exact hob
  · intro id id' o1 o2 L1 L2 h1 h2 a1 a2 hL1 hL2 hb
    by_cases hid : id < σ.length
    · rw [List.getElem?_append_left hid] at h1
      rw [hold id o1 h1] at hL1
      by_cases hid' : id' < σ.length
      · rw [List.getElem?_append_left hid'] at h2
        rw [hold id' o2 h2] at hL2
        exact W.inj id id' o1 o2 L1 L2 h1 h2 a1 a2 hL1 hL2 hb
      · rw [List.getElem?_append_right (by omega)] at h2
        have he : id' = σ.length := by
          have := (List.getElem?_eq_some_iff.1 h2).1
          simp at this; omega
        subst he
        simp [Env.bind] at hL2; subst hL2
        have := (W.block_lt h1 a1 hL1).1
        omega
    · rw [List.getElem?_append_right (by omega)] at h1
      have he : id = σ.length := by
        have := (List.getElem?_eq_some_iff.1 h1).1
        simp at this; omega
      subst he
      simp [Env.bind] at hL1; subst hL1
      by_cases hid' : id' < σ.length
      · rw [List.getElem?_append_left hid'] at h2
        rw [hold id' o2 h2] at hL2
        have := (W.block_lt h2 a2 hL2).1
        omega
      · rw [List.getElem?_append_right (by omega)] at h2
        have := (List.getElem?_eq_some_iff.1 h2).1
        simp at this; omega
  · intro id h
    simp at h
    simp [Env.bind, show id ≠ σ.length by omega]
    exact W.fresh id (by omega)
  · intro g cs h; exact (W.glob g cs h).mono x

/-- A new block that nobody writes to. -/
theorem WRel.newImm (W : WRel C B w0 E σ w) (p : Nat → Prop) (o : Obj) : WRel C B w0 (E.imm w.heap.size p) σ (w.alloc o) := by
  have x := ext_imm W p o
  constructor
  · exact below_alloc W o
  · simp; have := W.size; omega
  · intro b o' h
    rcases h with h | ⟨rfl, _⟩
    · have := W.imm b o' h; simp; omega
    · simp
  · intro id ob' h
    refine (W.obj id ob' h).mono x (fun L' hL' ha => ?_) (fun L ofs hL ha h' => ?_)
    · exact Below.heap_alloc w o _ (W.block_lt h ha hL').1
    · rcases h' with h' | ⟨h', _⟩
      · exact h'
      · have := (W.block_lt h ha hL).1; omega
  · exact W.inj
  · exact W.fresh
  · intro g cs h; exact (W.glob g cs h).mono x

theorem heap_new (w : World) (o : Obj) : (w.alloc o).heap[w.heap.size]? = some o := by show (w.heap.push o)[w.heap.size]? = some o; simp

/-- A new row. -/
theorem new_row (W : WRel C B w0 E σ w) (es : List (List AV)) (sz : Nat) (c : Array Value) (e : TypeId) (hsz : ∀ (i : Nat) (g : List AV), es[i]? = some g → g.length = sz) (hle : es.length * sz ≤ c.size)
    (hc : ∀ (i : Nat) (g : List AV) (j : Nat) (a : AV), es[i]? = some g → g[j]? = some a → ∃ v, c[i * sz + j]? = some v ∧ Rep E w a v) :
    WRel C B w0 (E.bind σ.length ⟨w.heap.size, 0, sz, c.size⟩) (σ ++ [AObj.row es]) (w.alloc (.cells c e)) ∧ Ext E w (E.bind σ.length ⟨w.heap.size, 0, sz, c.size⟩) (w.alloc (.cells c e)) := by
  have x := ext_bind W ⟨w.heap.size, 0, sz, c.size⟩ (.cells c e)
  refine ⟨W.new _ rfl _ _ ⟨⟨w.heap.size, 0, sz, c.size⟩, c, e, by simp [Env.bind], W.size, heap_new w _, hsz, by simpa using hle, Nat.le_refl _, fun i g j a hg hj => ?_, fun o ho => ?_⟩, x⟩
  · obtain ⟨v, hv, hr⟩ := hc i g j a hg hj
    exact ⟨v, by simpa using hv, hr.mono x⟩
  · have := W.imm _ _ ho; simp at this

theorem ptr_new (E : Env) (w : World) (id b : Nat) (sz u : Nat) : Rep (E.bind id ⟨b, 0, sz, u⟩) w (.ptr id 0 0) (.pointer (some ⟨b, 0, none⟩)) := by
  have := Rep.ptr (E := E.bind id ⟨b, 0, sz, u⟩) (w := w) id 0 0 ⟨b, 0, sz, u⟩ (by simp [Env.bind])
  simpa using this

theorem alloc_ok (hC : COk C) (W : WRel C B w0 E σ w) {e : TypeId} {d : TD} (hd : C.D e = some d) : ∃ v' w' E', (Instr.alloc e true (.tuple #[])).run C.P w = .ok v' w' ∧ WRel C B w0 E' (aNew σ [d.zero]).2 w' ∧ Ext E w E' w' ∧ Rep E' w' (aNew σ [d.zero]).1 v' := by
  obtain ⟨z, hz, hzr, hzl⟩ := (hC.ty e d hd).zero_run E w
  have hl1 := hzr.1
  simp at hl1
  obtain ⟨W', x⟩ := new_row W [d.zero] d.zero.length z.cells e (fun i g h => by cases i <;> simp_all) (by simp [hl1]) (fun i g j a hg hj => by
    cases i with
    | zero =>
      simp at hg; subst hg
      have hj' : j < z.cells.size := by rw [← hl1]; exact (List.getElem?_eq_some_iff.1 hj).1
      exact ⟨z.cells[j], by simp [hj'], hzr.2 j a _ hj (by simp [hj'])⟩
    | succ i => simp at hg)
  refine ⟨.pointer (some ⟨w.heap.size, 0, none⟩), _, _, ?_, W', x, ptr_new _ _ _ _ _ _⟩
  simp [Instr.alloc, hz, newVar, newRow]

theorem box_ok (W : WRel C B w0 E σ w) {a : AV} {v : Value} {l : List AV} (e : TypeId) (ha : Rep E w a v) (hl : cellsOf a = some l) :
    ∃ v' w' E', (Instr.box e v).run C.P w = .ok v' w' ∧ WRel C B w0 E' (aNew σ [l]).2 w' ∧ Ext E w E' w' ∧ Rep E' w' (aNew σ [l]).1 v' := by
  obtain ⟨hr, hcell⟩ := cellsOf_rep ha hl
  have hl1 := hr.1
  simp at hl1
  obtain ⟨W', x⟩ := new_row W [l] l.length v.cells e (fun i g h => by cases i <;> simp_all) (by simp [hl1]) (fun i g j a hg hj => by
    cases i with
    | zero =>
      simp at hg; subst hg
      have hj' : j < v.cells.size := by rw [← hl1]; exact (List.getElem?_eq_some_iff.1 hj).1
      exact ⟨v.cells[j], by simp [hj'], hr.2 j a _ hj (by simp [hj'])⟩
    | succ i => simp at hg)
  refine ⟨.pointer (some ⟨w.heap.size, 0, none⟩), _, _, ?_, W', x, ptr_new _ _ _ _ _ _⟩
  simp [Instr.box, newVar, newRow]

/-! Cells written -/
theorem set_get {α : Type} {l : List α} {i j : Nat} {a x : α} (h : (l.set i a)[j]? = some x) : (i = j ∧ x = a) ∨ (i ≠ j ∧ l[j]? = some x) := by
  by_cases e : i = j
  · subst e
    left
    by_cases hi : i < l.length
    · rw [List.getElem?_set_self hi] at h; simp at h; exact ⟨rfl, h.symm⟩
    · rw [List.getElem?_eq_none (by simp; omega)] at h; cases h
  · rw [List.getElem?_set_ne e] at h; exact .inr ⟨e, h⟩

theorem ext_setRow (W : WRel C B w0 E σ w) {L : Loc} (hno : ∀ o, ¬ E.I L.b o) (c' : Array Value) : Ext E w E (w.setRow L.b c') :=
  ⟨fun _ _ h => h, fun _ _ h => h, fun b o h => cell_setRow_other w L.b c' _ (by rintro rfl; exact hno _ h)⟩

theorem WRel.setRow (W : WRel C B w0 E σ w) {id : Nat} {es es' : List (List AV)} (hid : σ[id]? = some (.row es)) {L : Loc} {c c' : Array Value} {e : TypeId} (hL : E.μ id = some L) (hh : w.heap[L.b]? = some (.cells c e (0, 0))) (hs : c'.size = c.size)
    (hlen : es'.length = es.length) (hsz : ∀ (i : Nat) (g : List AV), es'[i]? = some g → g.length = L.sz)
    (hc : ∀ (i : Nat) (g : List AV) (j : Nat) (a : AV), es'[i]? = some g → g[j]? = some a → ∃ v, c'[L.o + i * L.sz + j]? = some v ∧ Rep E w a v) :
    WRel C B w0 E (σ.set id (.row es')) (w.setRow L.b c') ∧ Ext E w E (w.setRow L.b c') := by
  obtain ⟨L0, c0, e0, hL0, hB, hh0, h1, h2, h3, h4, h5⟩ := W.obj id _ hid
  rw [hL] at hL0; cases hL0
  rw [hh] at hh0; cases hh0
  have x := ext_setRow W h5 c'
  have hidlt := (List.getElem?_eq_some_iff.1 hid).1
  refine ⟨?_, x⟩
  constructor
  · exact W.below.trans ⟨rfl, rfl, rfl, by simp, fun k hk => setRow_other w L.b k c' (by omega)⟩
  · simp; exact W.size
  · intro b o h; have := W.imm b o h; simpa using this
  · intro id' o' h
    rcases set_get h with ⟨rfl, rfl⟩ | ⟨hne, h⟩
    · refine ⟨L, c', e, hL, hB, setRow_heap w L.b c c' e (0, 0) hh, hsz, by rw [hs, hlen]; exact h2, by rw [hs]; exact h3, fun i g j a hg hj => ?_, h5⟩
      obtain ⟨v, hv, hr⟩ := hc i g j a hg hj
      exact ⟨v, hv, hr.mono x⟩
    · refine (W.obj id' o' h).mono x (fun L' hL' ha => setRow_other w L.b _ c' ?_) (fun _ _ _ _ h => h)
      intro hb
      exact hne (W.inj id id' _ _ L L' hid h rfl ha hL hL' hb.symm)
  · intro i1 i2 o1 o2 L1 L2 h1' h2' a1 a2 hL1 hL2 hb
    have conv : ∀ (k : Nat) (o : AObj), (σ.set id (.row es'))[k]? = some o → alive o = true → ∃ o' : AObj, σ[k]? = some o' ∧ alive o' = true := by
      intro k o hk ha
      rcases set_get hk with ⟨rfl, rfl⟩ | ⟨_, hk⟩
      · exact ⟨_, hid, rfl⟩
      · exact ⟨o, hk, ha⟩
    obtain ⟨o1', g1, b1⟩ := conv _ _ h1' a1
    obtain ⟨o2', g2, b2⟩ := conv _ _ h2' a2
    exact W.inj i1 i2 o1' o2' L1 L2 g1 g2 b1 b2 hL1 hL2 hb
  · intro k hk; simp at hk; exact W.fresh k hk
  · intro g cs h; exact (W.glob g cs h).mono x

theorem putCells_get {cs l r : List AV} {off : Nat} (h : putCells cs off l = some r) : r.length = cs.length ∧ off + l.length ≤ cs.length ∧
    ∀ (j : Nat) a, r[j]? = some a → (off ≤ j ∧ j < off + l.length ∧ l[j - off]? = some a) ∨ ((j < off ∨ off + l.length ≤ j) ∧ cs[j]? = some a) := by
  unfold putCells at h
  split at h
  · rename_i hle
    simp only [Option.some.injEq] at h; subst h
    refine ⟨by simp; omega, hle, fun j a hj => ?_⟩
    by_cases h1 : j < off
    · rw [List.getElem?_append_left (by simp; omega), List.getElem?_append_left (by simp; omega), List.getElem?_take, if_pos h1] at hj
      exact .inr ⟨.inl h1, hj⟩
    · by_cases h2 : j < off + l.length
      · rw [List.getElem?_append_left (by simp; omega), List.getElem?_append_right (by simp; omega)] at hj
        refine .inl ⟨by omega, h2, ?_⟩
        simpa [show min off cs.length = off by omega] using hj
      · rw [List.getElem?_append_right (by simp; omega), List.getElem?_drop] at hj
        refine .inr ⟨.inr (by omega), ?_⟩
        rw [← hj]; congr 1
        simp [show min off cs.length = off by omega]; omega
  · simp at h

theorem store_ok (hC : COk C) (W : WRel C B w0 E σ w) {ty : TypeId} {a x : AV} {va vx : Value} {σ' : AS} (ha : Rep E w a va) (hx : Rep E w x vx) (h : aStore C σ ty a x = some σ') :
    ∃ w', (Instr.storeAt ty va vx).run C.P w = .ok () w' ∧ WRel C B w0 E σ' w' ∧ Ext E w E w' := by
  unfold aStore at h
  split at h
  · rename_i id i off
    cases ha with
    | ptr _ _ _ L hL =>
      split at h
      · rename_i es hid
        simp only [Option.bind_eq_some_iff] at h
        obtain ⟨d, hd, g, hg, l, hl, h⟩ := h
        split at h
        · rename_i hlen
          simp only [Option.map_eq_some_iff] at h
          obtain ⟨g', hg', rfl⟩ := h
          obtain ⟨L0, c, e, hL0, hB, hh, h1, h2, h3, h4, h5⟩ := W.obj id _ hid
          rw [hL] at hL0; cases hL0
          obtain ⟨hr, hcell⟩ := cellsOf_rep hx hl
          obtain ⟨hgl, hle, hget⟩ := putCells_get hg'
          have hgsz := h1 i g hg
          have hilt := (List.getElem?_eq_some_iff.1 hg).1
          have hvl : vx.cells.toList.length = l.length := hr.1.symm
          have hbnd : L.o + i * L.sz + off + vx.cells.toList.length ≤ c.size := by
            have : i * L.sz + L.sz ≤ es.length * L.sz := by rw [← Nat.succ_mul]; exact Nat.mul_le_mul_right _ hilt
            omega
          have hrun := run_storeCells_at (P := C.P) L.b (L.o + i * L.sz + off) e vx.cells.toList 0 c w hh (by omega) (hr.oneCell hcell)
          simp only [Nat.add_zero] at hrun
          generalize hc' : (List.take (L.o + i * L.sz + off) c.toList ++ vx.cells.toList ++ List.drop (L.o + i * L.sz + off + vx.cells.toList.length) c.toList).toArray = c' at hrun
          have hcs : c'.size = c.size := by rw [← hc']; simp; simp at hbnd; omega
          have hc'get : ∀ k, c'[k]? = if L.o + i * L.sz + off ≤ k ∧ k < L.o + i * L.sz + off + vx.cells.toList.length then vx.cells.toList[k - (L.o + i * L.sz + off)]? else c[k]? := by
            intro k
            rw [← hc']
            simp only [List.getElem?_toArray]
            by_cases k1 : k < L.o + i * L.sz + off
            · rw [if_neg (by omega), List.getElem?_append_left (by simp at hbnd ⊢; omega), List.getElem?_append_left (by simp at hbnd ⊢; omega), List.getElem?_take, if_pos k1]; simp
            · by_cases k2 : k < L.o + i * L.sz + off + vx.cells.toList.length
              · rw [if_pos ⟨by omega, k2⟩, List.getElem?_append_left (by simp at hbnd k2 ⊢; omega), List.getElem?_append_right (by simp at hbnd ⊢; omega)]
                congr 1; simp at hbnd ⊢; omega
              · rw [if_neg (by omega), List.getElem?_append_right (by simp at hbnd k2 ⊢; omega), List.getElem?_drop]
                simp only [Array.getElem?_toList]
                congr 1; simp at hbnd k2 ⊢; omega
          obtain ⟨W', x'⟩ := W.setRow (es' := es.set i g') hid hL hh hcs (by simp) (fun k gg hk => by
            rcases set_get hk with ⟨rfl, rfl⟩ | ⟨_, hk⟩
            · rw [hgl]; exact hgsz
            · exact h1 k gg hk) (fun k gg j b hk hj => by
            rcases set_get hk with ⟨rfl, rfl⟩ | ⟨hne, hk⟩
            · rcases hget j b hj with ⟨j1, j2, j3⟩ | ⟨j1, j2⟩
              · have hjl : j - off < vx.cells.toList.length := by omega
                refine ⟨vx.cells.toList[j - off], ?_, hr.2 (j - off) b _ j3 (by rw [List.getElem?_eq_getElem hjl])⟩
                rw [hc'get, if_pos ⟨by omega, by omega⟩, List.getElem?_eq_getElem (by omega)]
                congr 2; omega
              · obtain ⟨v, hv, hrv⟩ := h4 i g j b hg j2
                exact ⟨v, by rw [hc'get, if_neg (by omega)]; exact hv, hrv⟩
            · obtain ⟨v, hv, hrv⟩ := h4 k gg j b hk hj
              refine ⟨v, ?_, hrv⟩
              rw [hc'get, if_neg ?_]
              · exact hv
              · have hj' : j < L.sz := by rw [← h1 k gg hk]; exact (List.getElem?_eq_some_iff.1 hj).1
                rcases Nat.lt_or_gt_of_ne hne with h6 | h6
                · have : i * L.sz + L.sz ≤ k * L.sz := by rw [← Nat.succ_mul]; exact Nat.mul_le_mul_right _ h6
                  omega
                · have : k * L.sz + L.sz ≤ i * L.sz := by rw [← Nat.succ_mul]; exact Nat.mul_le_mul_right _ h6
                  omega)
          refine ⟨_, ?_, W', x'⟩
          have hvs : vx.cells.size = d.size := by rw [← hlen, ← hvl]; simp
          simp [Instr.storeAt, Instr.sureAddr, storeVar, (hC.ty ty d hd).size_run, hvs, hrun]
        · simp at h
      · simp at h
  · simp at h
end
end Go.W
