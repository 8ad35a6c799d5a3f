/- Arguments that can be read as data, as abstract values; a call of a law, as the row's walk wants it. Conditions: none. -/
import Derived.Test.YtjnomlphjnnbnaaGreatDoorX3
import Derived.ChangeArms
import Derived.ProofKit
set_option linter.unusedVariables false
set_option linter.unusedSimpArgs false
namespace Go.W
open Go.RowKit (Below)

/-- What one cell of a type may be. -/
inductive Cl where
  | int (k : IntKind)
  | bool
  | str
  | sl (e : List Cl)

mutual
def Cl.ok : Cl → AV → Prop
  | .int k, a => ∃ n, a = .int k n ∧ (Lit.int k n).wf = true
  | .bool, a => ∃ b, a = .bool b
  | .str, a => ∃ l, a = .str l ∧ l.length ≤ maxLen
  | .sl e, a => ∃ es, a = .list es .no ∧ es.length ≤ maxLen ∧ ∀ g ∈ es, clsOk e g
def clsOk : List Cl → List AV → Prop
  | [], as => as = []
  | c :: cs, as => ∃ a r, as = a :: r ∧ Cl.ok c a ∧ clsOk cs r
end

theorem clsOk_length : ∀ {cs : List Cl} {as : List AV}, clsOk cs as → as.length = cs.length
  | [], as, h => by simp only [clsOk] at h; subst h; rfl
  | c :: cs, as, h => by
    simp only [clsOk] at h
    obtain ⟨a, r, rfl, _, h⟩ := h
    simp [clsOk_length h]

theorem clsOk_append : ∀ {cs ds : List Cl} {as bs : List AV}, clsOk cs as → clsOk ds bs → clsOk (cs ++ ds) (as ++ bs)
  | [], ds, as, bs, h, k => by simp only [clsOk] at h; subst h; exact k
  | c :: cs, ds, as, bs, h, k => by
    simp only [clsOk] at h
    obtain ⟨a, r, rfl, ha, h⟩ := h
    simp only [List.cons_append, clsOk]
    exact ⟨a, r ++ bs, rfl, ha, clsOk_append h k⟩

theorem Cl.ok_pure : ∀ {c : Cl} {a : AV}, Cl.ok c a → a.pure = true
  | .int k, a, h => by simp only [Cl.ok] at h; obtain ⟨n, rfl, _⟩ := h; rfl
  | .bool, a, h => by simp only [Cl.ok] at h; obtain ⟨n, rfl⟩ := h; rfl
  | .str, a, h => by simp only [Cl.ok] at h; obtain ⟨n, rfl, _⟩ := h; rfl
  | .sl e, a, h => by simp only [Cl.ok] at h; obtain ⟨n, rfl, _⟩ := h; rfl

theorem clsOk_pure : ∀ {cs : List Cl} {as : List AV}, clsOk cs as → ∀ (j : Nat) a, as[j]? = some a → a.pure = true
  | [], as, h, j, a, hj => by simp only [clsOk] at h; subst h; simp at hj
  | c :: cs, as, h, j, a, hj => by
    simp only [clsOk] at h
    obtain ⟨x, r, rfl, hx, h⟩ := h
    cases j with
    | zero => simp at hj; subst hj; exact Cl.ok_pure hx
    | succ j => simp at hj; exact clsOk_pure h j a hj

/-- The cells of a type; none: it is none of those that are read here. -/
def clsOf (P : Program) : Nat → TypeId → Option (List Cl)
  | 0, _ => none
  | n + 1, t => match P.underlying t with
    | some .bool => some [.bool]
    | some (.int k) => some [.int k]
    | some .string => some [.str]
    | some (.slice e) => (clsOf P n e).bind fun c => if P.cellsOf e = c.length ∧ 0 < c.length then some [.sl c] else none
    | some (.struct fs) => (go (clsOf P n) fs.toList 0).bind fun c => if P.cellsOf t = c.length then some c else none
    | _ => none
where
  go (f : TypeId → Option (List Cl)) : List Field → Nat → Option (List Cl)
  | [], _ => some []
  | x :: r, off => if x.offset = off then (f x.type).bind fun c => if P.cellsOf x.type = c.length then (go f r (off + c.length)).map (c ++ ·) else none else none

def E0 (W : World) : Env := ⟨fun _ => none, fun b _ => b < W.heap.size⟩

theorem Reps.pair {E : Env} {w : World} {as : List AV} {vs : List Value} (h : Reps E w as vs) {i : Nat} {a : AV} (ha : as[i]? = some a) : ∃ v, vs[i]? = some v ∧ Rep E w a v := by
  have hi : i < vs.length := by rw [← h.1]; exact (List.getElem?_eq_some_iff.1 ha).1
  exact ⟨vs[i], by simp [hi], h.2 i a vs[i] ha (by simp [hi])⟩

section
variable {H : Type} {enc : TypeId × Value → H} {P : Program} {W : World} {sp : Nat → Bool} {held : Bool}

theorem cells_get {base : Nat} {a : Addr} {n : Nat} {l : List Value} (h : W.cells? base a n = some l) : l.length = n ∧ ∀ i, i < n → W.cell? (a.add i) = l[i]? := by
  unfold World.cells? at h
  split at h
  · refine ⟨by simpa using mapM_some_length h, fun i hi => ?_⟩
    exact mapM_some_get h i i (by simp [hi])
  · simp at h

theorem cell_block {a : Addr} {v : Value} (h : W.cell? a = some v) : a.block < W.heap.size ∧ a.spot = none := by
  unfold World.cell? at h
  split at h
  · rename_i c t f hc
    refine ⟨(Array.getElem?_eq_some_iff.1 hc).1, ?_⟩
    split at h
    · simp at h
    · rename_i hs; simpa using hs
  · simp at h

theorem open_cls : ∀ (n : Nat) (t : TypeId) (cl : List Cl) (fuel : Nat) (cs : List Value) (x : DataW H × List MemPlace), clsOf P n t = some cl → DataW.trod enc P W 0 sp held fuel t cs = some x →
    ∃ as, Reps (E0 W) W as cs ∧ clsOk cl as
  | 0, t, cl, fuel, cs, x, h, hx => by simp [clsOf] at h
  | n + 1, t, cl, fuel, cs, x, h, hx => by
    have ih := open_cls n
    unfold clsOf at h
    split at h
    · rename_i ht
      simp only [Option.some.injEq] at h; subst h
      obtain ⟨b, rfl, _⟩ := DataW.trod_bool ht hx
      exact ⟨[.bool b], Reps.cons (.bool b) (Reps.nil _ _), by simp [clsOk, Cl.ok]⟩
    · rename_i k ht
      simp only [Option.some.injEq] at h; subst h
      obtain ⟨m, rfl, _, hw⟩ := DataW.trod_int ht hx
      exact ⟨[.int k m], Reps.cons (.int k m) (Reps.nil _ _), by simp [clsOk, Cl.ok, hw]⟩
    · rename_i ht
      simp only [Option.some.injEq] at h; subst h
      obtain ⟨s, rfl, _, hs⟩ := DataW.trod_string ht hx
      refine ⟨[.str s.data.toList], Reps.cons ?_ (Reps.nil _ _), ?_⟩
      · have := Rep.str (E := E0 W) (w := W) s.data.toList
        simpa using this
      · simp only [clsOk, Cl.ok]
        exact ⟨_, [], rfl, ⟨_, rfl, by simpa using hs⟩, rfl⟩
    · rename_i e ht
      simp only [Option.bind_eq_some_iff] at h
      obtain ⟨c, hc, h⟩ := h
      split at h
      · rename_i hcl
        simp only [Option.some.injEq] at h; subst h
        rcases DataW.trod_slice ht hx with ⟨rfl, _⟩ | ⟨a, len, cap, elems, rest, m, _, rfl, _, _, hlc, hcm, hlen, hel, _, _⟩
        · refine ⟨[.list [] .no], Reps.cons ?_ (Reps.nil _ _), ?_⟩
          · exact .list [] .no none 0 ⟨0, 0, none⟩ 0 (fun _ _ => undef) (by simp) (by simp) rfl (by simp) (by simp) (by simp) trivial
          · simp [clsOk, Cl.ok]
        · have key : ∀ i, i < len → ∃ ci as, W.cells? 0 (a.add (i * P.cellsOf e)) (P.cellsOf e) = some ci ∧ Reps (E0 W) W as ci ∧ clsOk c as := fun i hi => by
            have h1 := hel i hi
            have h2 : i < elems.length := by omega
            rw [List.getElem?_eq_getElem h2, Option.bind_eq_some_iff] at h1
            obtain ⟨ci, h3, h4⟩ := h1
            obtain ⟨as, h5, h6⟩ := ih e c m ci _ hc h4
            exact ⟨ci, as, h3, h5, h6⟩
          have hex : ∃ (f : Nat → List Value) (g : Nat → List AV), ∀ i, i < len → W.cells? 0 (a.add (i * P.cellsOf e)) (P.cellsOf e) = some (f i) ∧ Reps (E0 W) W (g i) (f i) ∧ clsOk c (g i) :=
            ⟨fun i => if hi : i < len then (key i hi).choose else [], fun i => if hi : i < len then (key i hi).choose_spec.choose else [], fun i hi => by
              simp only [dif_pos hi]; exact (key i hi).choose_spec.choose_spec⟩
          obtain ⟨f, g, hfg⟩ := hex
          have hget : ∀ (i : Nat) (gi : List AV), ((List.range len).map g)[i]? = some gi → i < len ∧ gi = g i := fun i gi hi => by
            simp only [List.getElem?_map, Option.map_eq_some_iff] at hi
            obtain ⟨k, hk, rfl⟩ := hi
            have := List.getElem?_eq_some_iff.1 hk
            obtain ⟨h1, h2⟩ := this
            simp at h1 h2
            exact ⟨by omega, by rw [h2]⟩
          have hz : ∀ i, i < len → (g i).length = c.length := fun i hi => clsOk_length (hfg i hi).2.2
          have hspot : 0 < len → a.spot = none := fun h0 => by
            obtain ⟨h1, h2, _⟩ := hfg 0 h0
            obtain ⟨h3, h4⟩ := cells_get h1
            have h5 := h4 0 (by omega)
            simp only [Nat.zero_mul] at h5
            have h6 : (f 0)[0]? = some ((f 0)[0]'(by omega)) := by simp
            rw [h6] at h5
            have := (cell_block h5).2
            simpa [Addr.add] using this
          have hadd : 0 < len → ∀ i j, (a.add (i * P.cellsOf e)).add j = ⟨a.block, a.off + i * P.cellsOf e + j, none⟩ := fun h0 i j => by
            have h1 := hspot h0
            cases a with | mk b o s =>
            simp only at h1; subst h1
            simp only [Addr.add]
            split <;> split <;> simp_all
          have hcells : ∀ i j, i < len → j < c.length → ∃ v, W.cell? ⟨a.block, a.off + i * P.cellsOf e + j, none⟩ = some v ∧ (f i)[j]? = some v ∧ a.block < W.heap.size := fun i j hi hj => by
            obtain ⟨h1, h2, _⟩ := hfg i hi
            obtain ⟨h3, h4⟩ := cells_get h1
            have h5 := h4 j (by omega)
            rw [hadd (by omega)] at h5
            have h6 : (f i)[j]? = some ((f i)[j]'(by omega)) := by simp
            rw [h6] at h5
            exact ⟨_, h5, h6, (cell_block h5).1⟩
          refine ⟨[.list ((List.range len).map g) .no], Reps.cons ?_ (Reps.nil _ _), ?_⟩
          · have hr : Rep (E0 W) W (.list ((List.range len).map g) .no) (.slice (some a) ((List.range len).map g).length cap) := by
              by_cases h0 : 0 < len
              · have hsp := hspot h0
                refine .list _ .no _ cap a c.length (fun i j => ((f i)[j]?).getD undef) (by simpa using hlc) (fun _ => rfl) hsp ?_ ?_ ?_ trivial
                · intro i gi hi; obtain ⟨h1, rfl⟩ := hget i gi hi; exact hz i h1
                · intro i gi j ca hi hj
                  obtain ⟨h1, rfl⟩ := hget i gi hi
                  have hjl : j < c.length := by rw [← hz i h1]; exact (List.getElem?_eq_some_iff.1 hj).1
                  obtain ⟨v, hv, hfv, hb⟩ := hcells i j h1 hjl
                  rw [hcl.1] at hv
                  exact ⟨hb, by rw [hv, hfv]; rfl, clsOk_pure (hfg i h1).2.2 j ca hj⟩
                · intro i gi j ca hi hj
                  obtain ⟨h1, rfl⟩ := hget i gi hi
                  obtain ⟨v, hv, hr⟩ := (hfg i h1).2.1.pair hj
                  rw [hv]; exact hr
              · have : len = 0 := by omega
                subst this
                exact .list [] .no _ cap ⟨0, 0, none⟩ 0 (fun _ _ => undef) (by simp) (by simp) rfl (by simp) (by simp) (by simp) trivial
            simpa using hr
          · simp only [clsOk, Cl.ok]
            refine ⟨_, [], rfl, ⟨_, rfl, by simp; omega, ?_⟩, rfl⟩
            intro gi hgi
            obtain ⟨i, hi⟩ := List.getElem?_of_mem hgi
            obtain ⟨h1, rfl⟩ := hget i gi hi
            exact (hfg i h1).2.2
      · simp at h
    · rename_i fs ht
      simp only [Option.bind_eq_some_iff] at h
      obtain ⟨c, hc, h⟩ := h
      split at h
      · rename_i hcl
        simp only [Option.some.injEq] at h; subst h
        obtain ⟨xs, m, _, _, hcsl, hxl, hf⟩ := DataW.trod_struct ht hx
        have key : ∀ (l : List Field) (k off : Nat) (c : List Cl), (∀ (i : Nat) (f : Field), l[i]? = some f → fs.toList[k + i]? = some f) → clsOf.go P (clsOf P n) l off = some c → off + c.length ≤ cs.length →
            ∃ as, Reps (E0 W) W as ((cs.drop off).take c.length) ∧ clsOk c as := by
          intro l
          induction l with
          | nil => intro k off c hl hgo hle; simp only [clsOf.go, Option.some.injEq] at hgo; subst hgo; exact ⟨[], by simp; exact Reps.nil _ _, by simp [clsOk]⟩
          | cons f r ihl =>
            intro k off c hl hgo hle
            simp only [clsOf.go] at hgo
            split at hgo
            · rename_i hoff
              simp only [Option.bind_eq_some_iff] at hgo
              obtain ⟨cf, hcf, hgo⟩ := hgo
              split at hgo
              · rename_i hlen
                simp only [Option.map_eq_some_iff] at hgo
                obtain ⟨cr, hcr, rfl⟩ := hgo
                have hfk : fs[k]? = some f := by have := hl 0 f rfl; simpa using this
                have h1 := hf k f hfk
                have hk : k < xs.length := by
                  have := (Array.getElem?_eq_some_iff.1 hfk).1; omega
                rw [List.getElem?_eq_getElem hk, hoff, hlen] at h1
                obtain ⟨a1, hr1, hok1⟩ := ih f.type cf m _ _ hcf h1
                simp only [List.length_append] at hle
                obtain ⟨a2, hr2, hok2⟩ := ihl (k + 1) (off + cf.length) cr (fun i f' hi => by have := hl (i + 1) f' (by simpa using hi); rw [show k + 1 + i = k + (i + 1) by omega]; exact this) hcr (by omega)
                refine ⟨a1 ++ a2, ?_, clsOk_append hok1 hok2⟩
                have : (cs.drop off).take (cf ++ cr).length = (cs.drop off).take cf.length ++ (cs.drop (off + cf.length)).take cr.length := by
                  rw [List.length_append, List.take_add, List.drop_drop]
                rw [this]
                exact Reps.append hr1 hr2
              · simp at hgo
            · simp at hgo
        obtain ⟨as, h1, h2⟩ := key fs.toList 0 0 c (fun i f hi => by simpa using hi) hc (by omega)
        refine ⟨as, ?_, h2⟩
        rw [List.drop_zero, List.take_of_length_le (by omega)] at h1
        exact h1
      · simp at h
    · simp at h

end

theorem start_rel {C : Ctx} {W : World} (hg : ∀ g cs, C.G g = some cs → Rep (E0 W) W (.pp [cs] 0 0) (.pointer (some ⟨g, 0, none⟩))) : WRel C W.heap.size W (E0 W) [] W :=
  ⟨Below.refl _ _, Nat.le_refl _, fun b o h => h, fun id o h => by simp at h, fun i j o o' L L' h => by simp at h, fun id _ => rfl, hg⟩

/-- A law's call, as the row's walk wants it. -/
theorem law_calls {C : Ctx} {f : FuncId} {args : List AV} {vs : List Value} {W : World} (hg : ∀ g cs, C.G g = some cs → Rep (E0 W) W (.pp [cs] 0 0) (.pointer (some ⟨g, 0, none⟩))) (hr : Reps (E0 W) W args vs)
    (h : SCall C f args [] fun v _ => v = .bool true) : Calls C.P f vs.toArray W fun e w' => e = .returned (.bool true) ∧ Below W.heap.size W w' := by
  refine (h W.heap.size W (E0 W) W vs (start_rel hg) hr).mono fun e w' hq => ?_
  obtain ⟨v, σ', E', v', rfl, rfl, W', _, hrep⟩ := hq
  cases hrep
  exact ⟨rfl, W'.below⟩

end Go.W
