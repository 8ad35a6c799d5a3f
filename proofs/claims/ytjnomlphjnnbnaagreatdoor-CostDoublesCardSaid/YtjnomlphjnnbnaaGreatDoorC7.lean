/- The law CostDoubles: for every input it answers true, and the input reads as it did. Conditions: the package variable name.keywords holds what the program's text lays in it (the card ties it). -/
import Derived.Test.YtjnomlphjnnbnaaGreatDoorC6
import Derived.Test.YtjnomlphjnnbnaaGreatDoorRows
import Derived.Test.YtjnomlphjnnbnaaGreatDoorCards
import Derived.Test.YtjnomlphjnnbnaaGreatDoorTie
import Derived.ProofKit
import Derived.LaidMore
import Derived.OpenShut
import Derived.ChangeOld
import Derived.Below
import Derived.SizedLaws
import Derived.Stop.Joined
import Derived.SevenTiedAt
namespace Go.Proofs.YtjnomlphjnnbnaaGreatDoor
open Go.ChangeShapes Go.WideShapes Go.ChangeAt Go.WideMaps Go.WideElems Go.RowKit Go.W
set_option linter.unusedVariables false

theorem own : ownKnob Tryz.prog.godebug = none := by kernel_rfl
theorem laidOut : laidOutB Tryz.prog = true := by kernel_rfl
theorem gKw : Tryz.prog.globalNamed "gramarye/name.keywords" = some 0 := by kernel_rfl
theorem tKw : (Tryz.prog.globals[0]?).map (·.type) = some 161 := by kernel_rfl
abbrev laidL : List (String × DataW Unit) := [("gramarye/name.keywords", Rows.laid_gramarye_name_keywords)]

theorem door_met (os : Os) (args : Array Value) : laidMetH Tryz.prog laidL ((World.doorLaid Tryz.prog 400 os).forCall (fun _ _ => 0) ⟨#[], args, []⟩).memory :=
  laidMetH_of_parts3 (fuel := 8) (laidMet_of_run' 8 (by kernel_rfl) (by kernel_rfl)) (by kernel_rfl) (by kernel_rfl)

theorem str_toArray (s : ByteArray) (l : List UInt8) (h : s.data.toList = l) : s = ⟨l.toArray⟩ := by
  subst h; cases s; simp

/-- What the condition gives: the variable's cells. -/
theorem glob_of_laid {W : World} (h : laidMetH Tryz.prog laidL W) : ∀ g cs, cx.G g = some cs → Rep (E0 W) W (.pp [cs] 0 0) (.pointer (some ⟨g, 0, none⟩)) := by
  rw [MakeChecks.laidMetH_plain _ _ _ (by kernel_rfl)] at h
  obtain ⟨ps, ⟨g0, t0, cs0, f0, p0, q0, hg0, ht0, hv0, hd0, _, _⟩, _, _⟩ := h
  obtain rfl := Option.some.inj (gKw.symm.trans hg0)
  obtain rfl := Option.some.inj (tKw.symm.trans ht0)
  intro g cs hG
  simp only [cx] at hG
  unfold globT at hG
  split at hG
  · simp only [Option.some.injEq] at hG; subst hG
    obtain ⟨xs, m1, _, hx1, hlen, hn, hel⟩ := DataW.trod_array Tryz.underlying161 hd0
    have c9 : Tryz.prog.cellsOf 9 = 1 := by kernel_rfl
    have c161 : Tryz.prog.cellsOf 161 = 4 := by kernel_rfl
    simp only [Prod.mk.injEq, Rows.laid_gramarye_name_keywords, DataW.agg.injEq] at hx1
    have key : ∀ (i : Nat) (l : List UInt8), (xs.map (·.1))[i]? = some (.lit (.string l)) → i < 4 → W.cell? ⟨0, i, none⟩ = some (.string ⟨l.toArray⟩) := by
      intro i l hi hi4
      simp only [List.getElem?_map, Option.map_eq_some_iff] at hi
      obtain ⟨x, hx, hxl⟩ := hi
      have h1 := hel i hi4
      rw [hx, c9] at h1
      obtain ⟨s, e1, e2, _⟩ := DataW.trod_string Tryz.underlying9 (show DataW.trod _ Tryz.prog W 0 _ false m1 9 _ = some x from h1)
      rw [e2] at hxl
      simp only [DataW.lit.injEq, Lit.string.injEq] at hxl
      have hs := str_toArray s l hxl
      have hc := World.var?_cell hg0 hv0 i
      rw [hc]
      have h3 : ((cs0.toList.drop (i * 1)).take 1)[0]? = some (.string s) := by rw [e1]; rfl
      rw [List.getElem?_take_of_lt (by omega), List.getElem?_drop] at h3
      rw [← hs, ← h3]
      simp
    rw [← hx1.1] at key
    have k0 := key 0 _ rfl (by omega)
    have k1 := key 1 _ rfl (by omega)
    have k2 := key 2 _ rfl (by omega)
    have k3 := key 3 _ rfl (by omega)
    have hb := (cell_block k0).1
    refine .pp _ 0 0 0 0 4 (fun _ j => ([.string ⟨#[103, 114, 97, 109, 109, 97, 114]⟩, .string ⟨#[108, 111, 111, 107]⟩, .string ⟨#[115, 121, 110, 99]⟩, .string ⟨#[116, 111, 107, 101, 110]⟩] : List Value).getD j undef) ?_ ?_ ?_
    · intro i e he
      cases i with
      | zero => simp at he; subst he; rfl
      | succ i => simp at he
    · intro i e j c he hj
      cases i with
      | succ i => simp at he
      | zero =>
        simp at he; subst he
        refine ⟨hb, ?_, ?_⟩
        · match j, hj with
          | 0, _ => exact k0
          | 1, _ => exact k1
          | 2, _ => exact k2
          | 3, _ => exact k3
          | j + 4, hj => simp at hj
        · match j, hj with
          | 0, hj => simp at hj; subst hj; rfl
          | 1, hj => simp at hj; subst hj; rfl
          | 2, hj => simp at hj; subst hj; rfl
          | 3, hj => simp at hj; subst hj; rfl
          | j + 4, hj => simp at hj
    · intro i e j c he hj
      cases i with
      | succ i => simp at he
      | zero =>
        simp at he; subst he
        match j, hj with
        | 0, hj => simp at hj; subst hj; exact .str _
        | 1, hj => simp at hj; subst hj; exact .str _
        | 2, hj => simp at hj; subst hj; exact .str _
        | 3, hj => simp at hj; subst hj; exact .str _
        | j + 4, hj => simp at hj
  · simp at hG

set_option maxRecDepth 100000 in
theorem lifted (os : Os) (started : os.Started) (H : Type) (enc : TypeId × Value → H) :
    ReturnsInHanded {} Tryz.checked os 3 .any (fun w args => (Rows.costDoublesSpec.pre enc Tryz.prog Tryz.f3 [] false w args ∧ laidMetH Tryz.prog laidL w) ∧ sizedMet enc Tryz.prog Tryz.f3 (OpenSpec.ofChange Rows.costDoublesSpec) false w args)
      (Rows.costDoublesSpec.post enc Tryz.prog Tryz.f3 false true false false) := by
  refine returnsInHanded_of_change_and (C := Tryz.checked) (X := fun w _ => laidMetH Tryz.prog laidL w) (fun _ _ _ hh h => h.of_heap hh) own started (by kernel_rfl) Tryz.func3
    (ChangeSpec.witness_shaped (enc := enc) (C := Tryz.checked) (os := os) (X := fun w _ => laidMetH Tryz.prog laidL w) false (World.doorLaid Tryz.prog 400 os) #[.int .u8 0] 8 rfl (World.shaped_of_RefB (by kernel_rfl) (by kernel_rfl)) (by kernel_rfl) (by kernel_rfl) (by kernel_rfl) (door_met os _)) ?_
  intro W base args ds gs before hval0 hW _ _ hL _
  have hval : ∀ (j : Nat) t v, Tryz.f3.params[j]? = some t → args[j]? = some v → Value.okWide Tryz.prog W .any base t v := hval0
  have hW' := hW
  obtain ⟨p, q, hA0, hV, rfl, hfz, hnd⟩ := hW
  have hA : DataW.TrodAll enc Tryz.prog W 0 (fun _ => true) true Tryz.f3.params.toList args.toList ds p := hA0
  rw [Tryz.params3] at hA hval
  obtain ⟨v0, d0, rfl, rfl, h0⟩ := trodAll_one hA
  obtain ⟨rfl, rfl⟩ := trodVars_none hV
  obtain ⟨n, rfl, rfl, rfl, wa⟩ := open_int Tryz.underlying5 (hval 0 5 v0 rfl rfl) h0
  clear hA0 hval0
  simp only [List.append_nil] at hW'
  have rg : 0 ≤ n ∧ n ≤ 255 := by
    simp only [Lit.wf, Bool.and_eq_true, decide_eq_true_eq] at wa
    exact wa
  refine (law_calls (C := cx) (f := 3) (glob_of_laid hL) (Reps.cons (.int _ _) (Reps.nil _ _)) (law_call n rg.1 rg.2)).mono fun e W' ⟨he, bel⟩ => ?_
  subst he
  exact ⟨_, rfl, _, _, _, [], _, [], hW', trodAll_mk1 (shut_bool Tryz.underlying4 _), trodAll_mk1 (shut_int Tryz.underlying5 wa), rfl, bel.frame _, fun h => by cases h⟩

theorem row_holds : Rows.CostDoublesSaid :=
  OpenClaim.holds_of_wide 3 Tryz.f3 rfl rfl rfl rfl rfl rfl rfl ⟨rfl, rfl, rfl, rfl, rfl⟩ rfl rfl rfl rfl rfl (by kernel_rfl) Tryz.func3 (by kernel_rfl)
    (of_decide_eq_true (by kernel_rfl)) (by unfold Func.isWrapper; first | (rw [if_pos (by decide +kernel)]; kernel_rfl) | (rw [if_neg (by decide +kernel)]; exact ⟨rfl, rfl⟩))
    (fun os started H enc _ => lifted os started H enc)

/-- The law, as it is given: the tied card. -/
theorem costDoubles_holds : Rows.CostDoublesCardSaid :=
  Claim7.holds_tied_plain_at .later [] [.data] true (true, "81fb0a79eabec72bbc2b0d82061b40419debad9ef60d05a4fd32d818a77ad650") false
    row_holds (fun _ h => by cases h) (by kernel_rfl) (fun _ h => by cases h) costDoubles_row_tie rfl ⟨rfl, rfl⟩ (by kernel_rfl) rfl
    (fun f fn hf hfn => by
      obtain rfl : f = 3 := Option.some.inj ((show Tryz.prog.funcNamed "gramarye/gramaryelaw20.CostDoubles" = some 3 by kernel_rfl).symm.trans hf) |>.symm
      obtain rfl : fn = Tryz.f3 := (Option.some.inj (Tryz.func3.symm.trans hfn)).symm
      exact ⟨by kernel_rfl, fun j t ht => by
        rw [Tryz.params3] at ht
        have hm : t ∈ [5] := by simpa using Array.mem_of_getElem? ht
        have hall : ([5].all fun u => !Tryz.prog.wantsStandIn u) = true := by kernel_rfl
        exact (show Tryz.prog.wantsStandIn t = false by simpa using List.all_eq_true.1 hall t hm)⟩)
    (by kernel_rfl)
#print axioms costDoubles_holds
end Go.Proofs.YtjnomlphjnnbnaaGreatDoor
