/- The law DiagRises: the walk. Conditions: none. -/
import Derived.Test.YtldkompnddnojaaGreatDoorD2
set_option linter.unusedVariables false
set_option linter.unusedSimpArgs false
set_option maxRecDepth 100000
namespace Go.W
open Go.Proofs

theorem F3 : cx.F 3 = some Tryz.f3 := by kernel_rfl

theorem F5 : cx.F 5 = some Tryz.f5 := by kernel_rfl
attribute [local go_sem] wantedA aOp val1 val2 ev evs evParts absC absCs of_get tget tset of_put of_put0 of_n aBuiltin aLen aBinT aBin kindOf cx_D tyD3 tyD4 tyD22 tyD24 ints2 List.foldl_cons List.foldl_nil
  Option.map_some Option.bind_some Option.map_none Option.bind_none List.zipIdx_cons List.zipIdx_nil List.map_cons List.map_nil pick Then_n Then_x Then_r Blk_n Blk_x Blk_r
  F4 F5 Option.isSome_some List.append_nil List.nil_append if_true if_false ite_true ite_false List.getElem?_toArray List.getElem?_cons_zero List.getElem?_cons_succ List.toList_toArray beq_self_eq_true Bool.not_true Bool.not_false

/-- The store behind one and two copies of a list. -/
def st1 (l : List D3) : AS := if l.length = 0 then [] else [.tok 3]
def st2 (l : List D3) : AS := if l.length = 0 then [] else [.tok 3, .tok 3]
def tl1 (l : List D3) (k : Nat) : Tail := if l.length = 0 then .full else .tok k

theorem encD_len (l : List D3) : (encD l).length = l.length := by simp [encD]
theorem encD_lens (l : List D3) : lensAre 3 (encD l) = true := by simp [lensAre, encD]
theorem encD_clean (l : List D3) : cleanEls (encD l) = some (encD l) := by
  induction l with
  | nil => rfl
  | cons p r ih =>
    show (match cleanAll [.int .i64 p.1, .int .i64 p.2.1, .int .i64 p.2.2], cleanEls (encD r) with | some x, some xs => some (x :: xs) | _, _ => none) = _
    rw [ih]; rfl
theorem copyD (l : List D3) (tl : Tail) (σ : AS) (hl : l.length ≤ 50) : aAppend cx false 22 σ (.list [] .full) (.list (encD l) tl) = some (.list (encD l) (tl1 l σ.length), if l.length = 0 then σ else σ ++ [.tok 3]) := by
  simp only [aAppend, cx_D, tyD22, tyD24, Option.bind_some, srcElems, elems, encD_len]
  by_cases h : l.length = 0
  · rw [if_pos h, if_pos h]
    have : l = [] := List.length_eq_zero_iff.1 h
    subst this; rfl
  · rw [if_neg h, if_neg h]
    rw [if_pos ⟨by simp [room]; omega, by decide, by decide, rfl, encD_lens l⟩]
    simp only [Option.bind_some, Bool.false_eq_true, if_false, encD_clean, List.nil_append, tl1, if_neg h]

theorem hb_0 : aBuildSlice cx 22 0 [] = some (.list [] .full) := by
  simp only [aBuildSlice, cx_D, tyD22, tyD24, Option.bind_some]; rfl

theorem law_call (l : List D3) : SCall cx 3 [.list (encD l) .no] [] (fun v _ => v = .bool true) := by
  refine SCall.body cx_ok F3 rfl 42 rfl fun QQ hQQ => ?_
  simp +decide only [go_sem]
  refine w_seq (w_reg [0] fun K hK => ?_)
  repeat refine o_val (by simp +decide only [go_sem]) (by simp +decide only [go_sem]; try rfl) (by simp +decide only [go_sem]; try rfl) ?_
  refine o_end (hK _ _ ?_); clear hK K
  simp +decide only [go_sem]
  refine w_seq (w_reg [0] fun K hK => ?_)
  have hb : aBuildSlice cx 22 0 [] = some (.list [] .full) := by
    simp only [aBuildSlice, cx_D, tyD22, tyD24, Option.bind_some]; rfl
  have hmin : (if (50 : Int) < (l.length : Int) then (50 : Int) else (l.length : Int)) = ((min l.length 50 : Nat) : Int) := by split <;> omega
  have hsl : aSliceAny cx 22 [] (.list (encD l) .no) none (some (.int .i64 ((min l.length 50 : Nat) : Int))) = some (.list (encD (l.take 50)) .no, []) := by
    have h1 : hiOf (some (.int .i64 ((min l.length 50 : Nat) : Int))) (encD l).length = some (min l.length 50) := by
      simp only [hiOf, bound, encD_len]; rw [if_pos (by omega)]; simp
    simp only [aSliceAny, kindOf, aSlice, cx_D, tyD22, tyD24, Option.map_some, Option.bind_some, h1, loOf, true_or, if_true, List.drop_zero]
    have : (encD l).take (min l.length 50) = encD (l.take 50) := by
      unfold encD
      rw [← List.map_take]
      congr 1
      rw [Nat.min_comm, ← List.take_take, List.take_length]
    rw [this]; rfl
  have hr1 : cx.rows 3 1 = false := rfl
  refine o_val (by simp +decide only [go_sem]) (by simp +decide only [go_sem, hb, List.map_nil]; try rfl) (by simp +decide only [go_sem]; try rfl) ?_
  refine o_val (by simp +decide only [go_sem]) (by simp +decide only [go_sem]; try rfl) (by simp +decide only [go_sem]; try rfl) ?_
  refine o_val (by simp +decide only [go_sem]) (by simp +decide only [go_sem]; try rfl) (by simp +decide only [go_sem]; try rfl) ?_
  refine o_val (by simp +decide only [go_sem]) (by simp +decide only [go_sem, encD_len]; try rfl) (by simp +decide only [go_sem]; try rfl) ?_
  refine o_val (by simp +decide only [go_sem]) (by simp +decide only [go_sem, hmin]; try rfl) (by simp +decide only [go_sem]; try rfl) ?_
  refine o_val (by simp +decide only [go_sem]) (by simp +decide only [go_sem, hsl]; try rfl) (by simp +decide only [go_sem]; try rfl) ?_
  generalize hm : l.take 50 = m at *
  have hlm : m.length ≤ 50 := by rw [← hm]; simp; omega
  refine o_val (by simp +decide only [go_sem]) (by simp +decide only [go_sem, hr1, copyD m .no [] hlm]; try rfl) (by simp +decide only [go_sem]; try rfl) ?_
  refine o_val (by simp +decide only [go_sem]) (by simp +decide only [go_sem]; try rfl) (by simp +decide only [go_sem]; try rfl) ?_
  refine o_end (hK _ _ ?_); clear hK K
  simp +decide only [go_sem]
  have hs1 : (if m.length = 0 then ([] : AS) else [] ++ [AObj.tok 3]) = st1 m := by unfold st1; split <;> rfl
  simp only [hs1, List.length_nil]
  refine w_seq (w_reg [0, 3] fun K hK => ?_)
  repeat refine o_val (by simp +decide only [go_sem]) (by simp +decide only [go_sem]; try rfl) (by simp +decide only [go_sem]; try rfl) ?_
  refine o_end (hK _ _ ?_); clear hK K
  simp +decide only [go_sem]
  refine w_seq (w_seq (w_reg [0, 3, 4] fun K hK => ?_))
  repeat refine o_val (by simp +decide only [go_sem]) (by simp +decide only [go_sem]; try rfl) (by simp +decide only [go_sem]; try rfl) ?_
  refine o_end (hK _ _ ?_); clear hK K
  simp +decide only [go_sem]
  refine w_block (w_loop (fun n t σ' => ∃ (i : Nat) (b : Bool), n = m.length - i ∧ 1 ≤ i ∧ (i ≤ m.length ∨ i = 1) ∧ b = decide (Up m i) ∧ t = T.of 42 [(0, .list (encD m) (tl1 m 0)), (3, .bool b), (4, .int .i64 i)] ∧ σ' = st1 m)
    ⟨1, true, rfl, Nat.le_refl _, .inr rfl, (decide_eq_true (show Up m 1 from fun j hj => by omega)).symm, rfl, rfl⟩ ?_)
  rintro n t σ' ⟨i, b, rfl, hi1, hi, hb, rfl, rfl⟩
  refine w_seq (w_seq (w_reg [0, 3, 4, 15] fun K hK => ?_))
  iterate 2 refine o_val (by simp +decide only [go_sem]) (by simp +decide only [go_sem]; try rfl) (by simp +decide only [go_sem]; try rfl) ?_
  refine o_val (by simp +decide only [go_sem]) (by simp +decide only [go_sem, encD_len]; try rfl) (by simp +decide only [go_sem]; try rfl) ?_
  refine o_val (by simp +decide only [go_sem]) (by simp +decide only [go_sem]; try rfl) (by simp +decide only [go_sem]; try rfl) ?_
  refine o_end (hK _ _ ?_); clear hK K
  simp +decide only [go_sem]
  refine w_cond (v := decide ((i : Int) < (m.length : Int))) (by simp +decide only [go_sem]) (fun hc => ?_) (fun hc => ?_)
  · have hi' : i < m.length := by have := of_decide_eq_true hc; omega
    refine w_skip ?_
    simp +decide only [go_sem]
    have hrange : ((List.range 15).map fun i => (i, (none : Option (List Nat)))) ++ [(15, some [])] = [(0, none), (1, none), (2, none), (3, none), (4, none), (5, none), (6, none), (7, none), (8, none), (9, none), (10, none), (11, none), (12, none), (13, none), (14, none), (15, some [])] := rfl
    refine w_mid (fun t σ => ∃ b' : Bool, b' = decide (Up m (i + 1)) ∧ t = T.of 42 [(0, .list (encD m) (tl1 m 0)), (3, .bool b'), (4, .int .i64 i)] ∧ σ = st1 m)
      (w_block (w_draw [0, 3, 4] (((List.range 15).map fun i => (i, none)) ++ [(15, some [])]) (by kernel_rfl) fun K hK => ?_)) ?_
    rotate_left
    · rintro t σ ⟨b', hb', rfl, rfl⟩
      refine w_reg [0, 3, 4] fun K hK => ?_
      have hw2 : IntKind.i64.wrap ((i : Int) + 1) = ((i + 1 : Nat) : Int) := i64_nat (by omega) (by omega)
      refine o_val (by simp +decide only [go_sem]) (by simp +decide only [go_sem]; try rfl) (by simp +decide only [go_sem]; try rfl) ?_
      refine o_val (by simp +decide only [go_sem]) (by simp +decide only [go_sem, hw2]; try rfl) (by simp +decide only [go_sem]; try rfl) ?_
      refine o_val (by simp +decide only [go_sem]) (by simp +decide only [go_sem]; try rfl) (by simp +decide only [go_sem]; try rfl) ?_
      refine o_end (hK _ _ ?_); clear hK K
      simp +decide only [go_sem]
      exact ⟨_, by omega, i + 1, b', rfl, by omega, .inl (by omega), hb', rfl, trivial⟩
    rw [hrange]
    iterate 2 refine c_val (by simp +decide only [go_sem]; try rfl) (by simp +decide only [go_sem]) (by simp +decide only [go_sem]; try rfl) (by simp +decide only [go_sem]; try rfl) ?_
    have hw1 : IntKind.i64.wrap ((i : Int) - 1) = ((i - 1 : Nat) : Int) := i64_nat (by omega) (by omega)
    have hstep : Up m (i + 1) ↔ Up m i ∧ atD m (i - 1) < atD m i := by
      constructor
      · intro h
        refine ⟨fun j hj => h j (by omega), ?_⟩
        have := h (i - 1) (by omega)
        rwa [show i - 1 + 1 = i by omega] at this
      · rintro ⟨h1, h2⟩ j hj
        by_cases e : j + 1 < i
        · exact h1 j e
        · have : j = i - 1 := by omega
          subst this
          rwa [show i - 1 + 1 = i by omega]
    refine c_case 19 (by simp +decide only [go_sem]; rfl) ?_
    rintro (_|_) hb2
    · simp +decide only [go_sem]
      iterate 12 refine c_skip (by simp +decide only [go_sem]; try rfl) (by simp +decide only [go_sem]) (by simp +decide only [go_sem]; try rfl) ?_
      refine c_val (by simp +decide only [go_sem]; try rfl) (by simp +decide only [go_sem]) (by simp +decide only [go_sem]; try rfl) (by simp +decide only [go_sem]; try rfl) ?_
      refine c_act (by simp +decide only [go_sem]; rfl) (by simp +decide only [go_sem]) (by simp +decide only [go_sem]; rfl) (by simp +decide only [go_sem]; rfl) (by intro j hj; simp at hj) ?_
      refine c_end (hK _ _ ?_); clear hK K
      simp +decide only [go_sem]
      refine ⟨_, ?_, rfl, trivial⟩
      rw [decide_eq_false]
      intro h
      have h1 := (hstep.1 h).1
      rw [decide_eq_true h1] at hb
      rw [hb] at hb2; simp at hb2
    · simp +decide only [go_sem]
      iterate 2 refine c_val (by simp +decide only [go_sem]; try rfl) (by simp +decide only [go_sem]) (by simp +decide only [go_sem]; try rfl) (by simp +decide only [go_sem]; try rfl) ?_
      refine c_val (by simp +decide only [go_sem]; try rfl) (by simp +decide only [go_sem]) (by simp +decide only [go_sem, hw1]; try rfl) (by simp +decide only [go_sem]; try rfl) ?_
      refine c_val (by simp +decide only [go_sem]; try rfl) (by simp +decide only [go_sem]) (by simp +decide only [go_sem, idxD (show i - 1 < m.length by omega)]; try rfl) (by simp +decide only [go_sem]; try rfl) ?_
      refine c_val (by simp +decide only [go_sem]; try rfl) (by simp +decide only [go_sem]) (by simp +decide only [go_sem, fldD]; try rfl) (by simp +decide only [go_sem]; try rfl) ?_
      refine c_val (by simp +decide only [go_sem]; try rfl) (by simp +decide only [go_sem]) (by simp +decide only [go_sem, loadD (show i - 1 < m.length by omega)]; try rfl) (by simp +decide only [go_sem]; try rfl) ?_
      iterate 2 refine c_val (by simp +decide only [go_sem]; try rfl) (by simp +decide only [go_sem]) (by simp +decide only [go_sem]; try rfl) (by simp +decide only [go_sem]; try rfl) ?_
      refine c_val (by simp +decide only [go_sem]; try rfl) (by simp +decide only [go_sem]) (by simp +decide only [go_sem, idxD hi']; try rfl) (by simp +decide only [go_sem]; try rfl) ?_
      refine c_val (by simp +decide only [go_sem]; try rfl) (by simp +decide only [go_sem]) (by simp +decide only [go_sem, fldD]; try rfl) (by simp +decide only [go_sem]; try rfl) ?_
      refine c_val (by simp +decide only [go_sem]; try rfl) (by simp +decide only [go_sem]) (by simp +decide only [go_sem, loadD hi']; try rfl) (by simp +decide only [go_sem]; try rfl) ?_
      iterate 2 refine c_val (by simp +decide only [go_sem]; try rfl) (by simp +decide only [go_sem]) (by simp +decide only [go_sem]; try rfl) (by simp +decide only [go_sem]; try rfl) ?_
      refine c_act (by simp +decide only [go_sem]; rfl) (by simp +decide only [go_sem]) (by simp +decide only [go_sem]; rfl) (by simp +decide only [go_sem]; rfl) (by intro j hj; simp at hj) ?_
      refine c_end (hK _ _ ?_); clear hK K
      simp +decide only [go_sem]
      refine ⟨_, ?_, rfl, trivial⟩
      have h1 : Up m i := by
        have : decide (Up m i) = true := by rw [← hb]; exact hb2.symm
        exact of_decide_eq_true this
      rw [show decide (Up m (i + 1)) = decide (atD m (i - 1) < atD m i) from decide_eq_decide.2 (by rw [hstep]; exact ⟨fun h => h.2, fun h => ⟨h1, h⟩⟩)]
  · have hi' : ¬ i < m.length := by have := of_decide_eq_false hc; omega
    refine w_exit ?_
    simp +decide only [go_sem]
    refine w_seq (w_reg [2] fun K hK => ?_)
    have hb0 : aBuildSlice cx 22 0 [] = some (.list [] .full) := hb_0
    have hr7 : cx.rows 3 7 = false := rfl
    refine o_val (by simp +decide only [go_sem]) (by simp +decide only [go_sem, hb0, List.map_nil]; try rfl) (by simp +decide only [go_sem]; try rfl) ?_
    refine o_val (by simp +decide only [go_sem]) (by simp +decide only [go_sem]; try rfl) (by simp +decide only [go_sem]; try rfl) ?_
    refine o_val (by simp +decide only [go_sem]) (by simp +decide only [go_sem, hr7, copyD m (tl1 m 0) (st1 m) hlm]; try rfl) (by simp +decide only [go_sem]; try rfl) ?_
    have hUp : Up m m.length ↔ Up m i := by
      rcases hi with h | h
      · rw [show i = m.length by omega]
      · constructor
        · intro _ j hj; omega
        · intro _ j hj; omega
    have hs2 : (if m.length = 0 then st1 m else st1 m ++ [AObj.tok 3]) = st2 m := by unfold st1 st2; split <;> rfl
    simp only [hs2]
    refine o_call (by simp +decide only [go_sem]) (by simp +decide only [go_sem]; try rfl) ( rises_call m (tl1 m (st1 m).length) (st2 m) hlm) ?_
    rintro v σ' ⟨rfl, rfl⟩
    refine ⟨_, by simp +decide only [go_sem]; rfl, ?_⟩
    refine o_val (by simp +decide only [go_sem]) (by simp +decide only [go_sem]; try rfl) (by simp +decide only [go_sem]; try rfl) ?_
    refine o_val (by simp +decide only [go_sem]) (by simp +decide only [go_sem]; try rfl) (by simp +decide only [go_sem]; try rfl) ?_
    refine o_val (by simp +decide only [go_sem]) (by simp +decide only [go_sem]; try rfl) (by simp +decide only [go_sem]; try rfl) ?_
    have hbb : (decide (Up m m.length) == b) = true := by rw [hb, decide_eq_decide.2 hUp]; exact beq_self_eq_true _
    have hcall : SCall cx 5 [] (st2 m) (fun v _ => v = .bool true) := by
      unfold st2; split
      · exact works_0
      · exact works_2
    simp only [hbb]
    refine o_call (by simp +decide only [go_sem]) (by simp +decide only [go_sem]; try rfl) ( hcall) ?_
    rintro v σ' rfl
    refine ⟨_, by simp +decide only [go_sem]; rfl, ?_⟩
    refine o_val (by simp +decide only [go_sem]) (by simp +decide only [go_sem]; try rfl) (by simp +decide only [go_sem]; try rfl) ?_
    refine o_val (by simp +decide only [go_sem]) (by simp +decide only [go_sem]; try rfl) (by simp +decide only [go_sem]; try rfl) ?_
    refine o_end (hK _ _ ?_); clear hK K
    simp +decide only [go_sem]
    refine w_ret ?_
    exact (hQQ _ _ _ rfl rfl).1

end Go.W
