/- A slice of an array variable. Conditions: none. -/
import Derived.Test.YtjnomlphjnnbnaaGreatDoorW12
set_option linter.unusedVariables false
set_option linter.unusedSimpArgs false
namespace Go.W
open Go.RowKit (Below)
section
variable {C : Ctx} {B : Nat} {w0 : World} {E : Env} {σ : AS} {w : World}

theorem sliceArr_ok (hC : COk C) (W : WRel C B w0 E σ w) {ty : TypeId} {x r : AV} {σ' : AS} {v : Value} {lo hi : Option AV} {vlo vhi : Option Value} (hx : Rep E w x v) (hlo : optRep E w lo vlo) (hhi : optRep E w hi vhi)
    (h : aSliceArr C ty σ x lo hi = some (r, σ')) : ∃ v' w' E', (Instr.sliceAt ty v vlo vhi none).run C.P w = .ok v' w' ∧ WRel C B w0 E' σ' w' ∧ Ext E w E' w' ∧ Rep E' w' r v' := by
  simp only [aSliceArr, Option.bind_eq_some_iff] at h
  obtain ⟨d, hd, h⟩ := h
  obtain ⟨u, hu, hk⟩ := (hC.ty ty d hd).und
  split at h
  · rename_i n el id hkd
    rw [hkd] at hk; simp only [KdOk] at hk; subst hk
    simp only [Option.bind_eq_some_iff] at h
    obtain ⟨de, hde, h⟩ := h
    split at h
    · rename_i g hid
      split at h
      · rename_i hc
        obtain ⟨hsz1, hgn⟩ := hc
        simp only [Option.bind_eq_some_iff, Option.some.injEq, Prod.mk.injEq] at h
        obtain ⟨b, hb, a, ha, rfl, rfl⟩ := h
        obtain ⟨L, c, e, hL, hB, hheap, hsz, hle, hu', hcell, hno⟩ := W.obj id _ hid
        have hLsz : L.sz = n := by rw [← hsz 0 g rfl, hgn]
        cases hx with
        | ptr _ _ _ L' hL' =>
          rw [hL] at hL'; cases hL'
          obtain ⟨hr, hab, hbl⟩ := bounds_ok C.P hlo hhi false (Nat.le_refl n) hb ha
          have W1 := W.kill id
          have hlen : (σ.set id AObj.dead).length = σ.length := by simp
          have hle' : L.o + n ≤ c.size := by simpa [hLsz] using hle
          have W2 := W1.add ⟨L.b, L.o, 1, L.o + n⟩ (.row (g.map fun c => [c])) (by
            refine ⟨⟨L.b, L.o, 1, L.o + n⟩, c, e, by simp [Env.bind], hB, hheap, ?_, ?_, ?_, ?_, ?_⟩
            · intro i gg hg
              simp only [List.getElem?_map, Option.map_eq_some_iff] at hg
              obtain ⟨y, hy, rfl⟩ := hg
              rfl
            · simp [hgn]; exact hle'
            · exact hle'
            · intro i gg j y hg hj
              simp only [List.getElem?_map, Option.map_eq_some_iff] at hg
              obtain ⟨y', hy, rfl⟩ := hg
              cases j with
              | zero =>
                simp at hj; subst hj
                obtain ⟨v, hv, hrep⟩ := hcell 0 g i y' rfl hy
                refine ⟨v, ?_, hrep.mono (ext_add W1 _)⟩
                simpa using hv
              | succ j => simp at hj
            · exact hno) (show Free E (σ.set id .dead) L.b from W.free_kill hid rfl hL)
          rw [hlen] at W2
          have X := ext_add W ⟨L.b, L.o, 1, L.o + n⟩
          refine ⟨.slice (some (if n = a then ⟨L.b, L.o + 0 * L.sz + 0, none⟩ else (⟨L.b, L.o + 0 * L.sz + 0, none⟩ : Addr).add (a * 1))) (b - a) (n - a), w, _, ?_, W2, X, ?_⟩
          · simp [Instr.sliceAt, Instr.sureAddr, run_underlying hu, hr, (hC.ty el de hde).size_run, hsz1]
          · by_cases hca : n = a
            · rw [if_pos hca]
              exact .sl σ.length a (b - a) (n - a) _ ⟨L.b, L.o, 1, L.o + n⟩ (by simp [Env.bind]) (by omega) (.inl (by omega))
            · rw [if_neg hca]
              refine .sl σ.length a (b - a) (n - a) _ ⟨L.b, L.o, 1, L.o + n⟩ (by simp [Env.bind]) (by omega) (.inr ⟨?_, ?_⟩)
              · rw [add_at]; simp
              · simp only; omega
      · simp at h
    · simp at h
  · simp at h
end
end Go.W
