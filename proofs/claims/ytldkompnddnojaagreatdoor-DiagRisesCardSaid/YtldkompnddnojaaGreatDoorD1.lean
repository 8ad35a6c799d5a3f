/- diag.Rises and the law DiagRises: the walk. Conditions: none. -/
import Derived.Test.YtldkompnddnojaaGreatDoorW19
import Derived.Test.YtldkompnddnojaaGreatDoorCx
set_option linter.unusedVariables false
set_option linter.unusedSimpArgs false
set_option maxRecDepth 100000
namespace Go.W
open Go.Proofs

theorem F4 : cx.F 4 = some Tryz.f4 := by kernel_rfl

abbrev D3 := Int × Int × Int
def encD (l : List D3) : List (List AV) := l.map fun p => [.int .i64 p.1, .int .i64 p.2.1, .int .i64 p.2.2]
def atD (l : List D3) (i : Nat) : Int := ((l[i]?).map (·.1)).getD 0
def Up (l : List D3) (k : Nat) : Prop := ∀ j, j + 1 < k → atD l j < atD l (j + 1)
instance (l : List D3) (k : Nat) : Decidable (Up l k) := decidable_of_iff (∀ j, j < k - 1 → atD l j < atD l (j + 1)) ⟨fun h j hj => h j (by omega), fun h j hj => h j (by omega)⟩

attribute [local go_sem] wantedA aOp val1 val2 ev evs absC absCs of_get tget tset of_put of_put0 of_n aBuiltin aLen aBinT aBin kindOf cx_D tyD3 tyD4 tyD22 tyD24 ints2 List.foldl_cons List.foldl_nil
  Option.map_some Option.bind_some Option.map_none Option.bind_none List.zipIdx_cons List.zipIdx_nil List.map_cons List.map_nil pick Then_n Then_x Then_r Blk_n Blk_x Blk_r
  if_true if_false ite_true ite_false List.getElem?_toArray List.getElem?_cons_zero List.getElem?_cons_succ List.toList_toArray beq_self_eq_true Bool.not_true Bool.not_false

theorem encD_get {l : List D3} {j : Nat} (h : j < l.length) : (encD l)[j]? = some [.int .i64 (atD l j), .int .i64 (l[j]).2.1, .int .i64 (l[j]).2.2] := by
  simp [encD, atD, h]
theorem idxD {l : List D3} {tl : Tail} {σ : AS} {j : Nat} (h : j < l.length) : aIndexAddr cx 22 σ (.list (encD l) tl) (.int .i64 (j : Int)) = some (.pp (encD l) j 0) :=
  aIndexAddr_list (cx_D 22 ▸ tyD22) rfl (cx_D 24 ▸ tyD24) (encD_get h) rfl
theorem loadD {l : List D3} {σ : AS} {j : Nat} (h : j < l.length) : aLoad cx σ 3 (.pp (encD l) j 0) = some (.int .i64 (atD l j)) :=
  aLoad_pp (cx_D 3 ▸ tyD3) (encD_get h) rfl rfl
theorem fldD {es : List (List AV)} {j : Nat} : aFieldAddr cx 24 (.pp es j 0) 0 = some (.pp es j 0) := by
  simp only [aFieldAddr, cx_D, tyD24, tyD3, Option.bind_some, List.getElem?_cons_zero]; rfl

theorem rises_call (l : List D3) (tl : Tail) (σ : AS) (hl : l.length ≤ 50) : SCall cx 4 [.list (encD l) tl] σ (fun v σ' => v = .bool (decide (Up l l.length)) ∧ σ' = σ) := by
  refine SCall.body cx_ok F4 rfl 26 rfl fun QQ hQQ => ?_
  simp +decide only [go_sem]
  refine w_seq (w_reg [0] fun K hK => ?_)
  repeat refine o_val (by simp +decide only [go_sem]) (by simp +decide only [go_sem]; try rfl) (by simp +decide only [go_sem]; try rfl) ?_
  refine o_end (hK _ _ ?_); clear hK K
  simp +decide only [go_sem]
  refine w_seq (w_seq (w_reg [0, 5, 6] fun K hK => ?_))
  repeat refine o_val (by simp +decide only [go_sem]) (by simp +decide only [go_sem]; try rfl) (by simp +decide only [go_sem]; try rfl) ?_
  refine o_end (hK _ _ ?_); clear hK K
  simp +decide only [go_sem]
  have hlen : (encD l).length = l.length := by simp [encD]
  simp only [hlen]
  refine w_block (w_loop (fun n t σ' => ∃ i : Nat, n = l.length - i ∧ i ≤ l.length ∧ Up l i ∧ t = T.of 26 [(0, .list (encD l) tl), (5, .int .i64 l.length), (6, .int .i64 i)] ∧ σ' = σ) ⟨0, rfl, Nat.zero_le _, fun j hj => by omega, rfl, rfl⟩ ?_)
  rintro n t σ' ⟨i, rfl, hi, hup, rfl, rfl⟩
  refine w_seq (w_reg [0, 5, 6, 7] fun K hK => ?_)
  repeat refine o_val (by simp +decide only [go_sem]) (by simp +decide only [go_sem]; try rfl) (by simp +decide only [go_sem]; try rfl) ?_
  refine o_end (hK _ _ ?_); clear hK K
  simp +decide only [go_sem]
  refine w_seq (w_cond (v := decide ((i : Int) < (l.length : Int))) (by simp +decide only [go_sem]) (fun hc => ?_) (fun hc => ?_))
  · have hi' : i < l.length := by have := of_decide_eq_true hc; omega
    refine w_skip ?_
    simp +decide only [go_sem]
    refine w_seq (w_block (w_seq (w_reg [0, 3, 5, 6] fun K hK => ?_)))
    repeat refine o_val (by simp +decide only [go_sem]) (by simp +decide only [go_sem]; try rfl) (by simp +decide only [go_sem]; try rfl) ?_
    refine o_end (hK _ _ ?_); clear hK K
    simp +decide only [go_sem]
    have hrange : ((List.range 16).map fun i => (i, (none : Option (List Nat)))) = [(0, none), (1, none), (2, none), (3, none), (4, none), (5, none), (6, none), (7, none), (8, none), (9, none), (10, none), (11, none), (12, none), (13, none), (14, none), (15, none)] := rfl
    refine w_seq (w_draw [0, 5, 6, 24] ((List.range 16).map fun i => (i, none)) (by kernel_rfl) fun K hK => ?_)
    rw [hrange]
    iterate 3 refine c_val (by simp +decide only [go_sem]; try rfl) (by simp +decide only [go_sem]) (by simp +decide only [go_sem]; try rfl) (by simp +decide only [go_sem]; try rfl) ?_
    refine c_case 11 (by simp +decide only [go_sem]; rfl) ?_
    rintro (_|_) hb
    · have h0 : i = 0 := by have := of_decide_eq_false hb.symm; omega
      subst h0
      simp +decide only [go_sem]
      iterate 12 refine c_skip (by simp +decide only [go_sem]; try rfl) (by simp +decide only [go_sem]) (by simp +decide only [go_sem]; try rfl) ?_
      refine c_val (by simp +decide only [go_sem]; try rfl) (by simp +decide only [go_sem]) (by simp +decide only [go_sem]; try rfl) (by simp +decide only [go_sem]; try rfl) ?_
      refine c_end (hK _ _ ?_); clear hK K
      simp +decide only [go_sem]
      refine (w_cond (v := false) (by simp +decide only [go_sem]) (fun h => by simp at h) (fun _ => w_skip ?_))
      simp +decide only [go_sem]
      refine w_reg [0, 5, 6] fun K hK => ?_
      repeat refine o_val (by simp +decide only [go_sem]) (by simp +decide only [go_sem]; try rfl) (by simp +decide only [go_sem]; try rfl) ?_
      refine o_end (hK _ _ ?_); clear hK K
      simp +decide only [go_sem]
      exact ⟨_, by omega, 1, rfl, by omega, fun j hj => by omega, rfl, trivial⟩
    · have h0 : 0 < i := by have := of_decide_eq_true hb.symm; omega
      have hw1 : IntKind.i64.wrap ((i : Int) - 1) = ((i - 1 : Nat) : Int) := i64_nat (by omega) (by omega)
      simp +decide only [go_sem]
      iterate 2 refine c_val (by simp +decide only [go_sem]; try rfl) (by simp +decide only [go_sem]) (by simp +decide only [go_sem]; try rfl) (by simp +decide only [go_sem]; try rfl) ?_
      refine c_val (by simp +decide only [go_sem]; try rfl) (by simp +decide only [go_sem]) (by simp +decide only [go_sem, hw1]; try rfl) (by simp +decide only [go_sem]; try rfl) ?_
      refine c_val (by simp +decide only [go_sem]; try rfl) (by simp +decide only [go_sem]) (by simp +decide only [go_sem, idxD (show i - 1 < l.length by omega)]; try rfl) (by simp +decide only [go_sem]; try rfl) ?_
      refine c_val (by simp +decide only [go_sem]; try rfl) (by simp +decide only [go_sem]) (by simp +decide only [go_sem, fldD]; try rfl) (by simp +decide only [go_sem]; try rfl) ?_
      refine c_val (by simp +decide only [go_sem]; try rfl) (by simp +decide only [go_sem]) (by simp +decide only [go_sem, loadD (show i - 1 < l.length by omega)]; try rfl) (by simp +decide only [go_sem]; try rfl) ?_
      iterate 2 refine c_val (by simp +decide only [go_sem]; try rfl) (by simp +decide only [go_sem]) (by simp +decide only [go_sem]; try rfl) (by simp +decide only [go_sem]; try rfl) ?_
      refine c_val (by simp +decide only [go_sem]; try rfl) (by simp +decide only [go_sem]) (by simp +decide only [go_sem, idxD hi']; try rfl) (by simp +decide only [go_sem]; try rfl) ?_
      refine c_val (by simp +decide only [go_sem]; try rfl) (by simp +decide only [go_sem]) (by simp +decide only [go_sem, fldD]; try rfl) (by simp +decide only [go_sem]; try rfl) ?_
      refine c_val (by simp +decide only [go_sem]; try rfl) (by simp +decide only [go_sem]) (by simp +decide only [go_sem, loadD hi']; try rfl) (by simp +decide only [go_sem]; try rfl) ?_
      iterate 2 refine c_val (by simp +decide only [go_sem]; try rfl) (by simp +decide only [go_sem]) (by simp +decide only [go_sem]; try rfl) (by simp +decide only [go_sem]; try rfl) ?_
      refine c_end (hK _ _ ?_); clear hK K
      simp +decide only [go_sem]
      refine w_cond (v := decide (atD l (i - 1) ≥ atD l i)) (by simp +decide only [go_sem]) (fun hge => ?_) (fun hlt => ?_)
      · have hge' := of_decide_eq_true hge
        refine w_seq (w_reg [2] fun K hK => ?_)
        repeat refine o_val (by simp +decide only [go_sem]) (by simp +decide only [go_sem]; try rfl) (by simp +decide only [go_sem]; try rfl) ?_
        refine o_end (hK _ _ ?_); clear hK K
        simp +decide only [go_sem]
        refine w_ret ?_
        simp +decide only [go_sem]
        refine (hQQ _ _ _ rfl ⟨?_, rfl⟩).1
        simp +decide only [go_sem]
        have hn : ¬ Up l l.length := fun h => by
          have := h (i - 1) (by omega)
          rw [show i - 1 + 1 = i by omega] at this
          omega
        rw [decide_eq_false hn]
      · have hlt' := of_decide_eq_false hlt
        refine w_skip ?_
        simp +decide only [go_sem]
        refine w_reg [0, 5, 6] fun K hK => ?_
        have hw2 : IntKind.i64.wrap ((i : Int) + 1) = ((i + 1 : Nat) : Int) := i64_nat (by omega) (by omega)
        refine o_val (by simp +decide only [go_sem]) (by simp +decide only [go_sem, hw2]; try rfl) (by simp +decide only [go_sem]; try rfl) ?_
        refine o_val (by simp +decide only [go_sem]) (by simp +decide only [go_sem]; try rfl) (by simp +decide only [go_sem]; try rfl) ?_
        refine o_end (hK _ _ ?_); clear hK K
        simp +decide only [go_sem]
        refine ⟨_, ?_, i + 1, rfl, by omega, fun j hj => ?_, rfl, trivial⟩
        · omega
        · by_cases e : j + 1 < i
          · exact hup j e
          · have : j = i - 1 := by omega
            subst this
            rw [show i - 1 + 1 = i by omega]
            omega
  · have hi' : ¬ i < l.length := by have := of_decide_eq_false hc; omega
    refine w_exit ?_
    simp +decide only [go_sem]
    refine w_seq (w_reg [2] fun K hK => ?_)
    repeat refine o_val (by simp +decide only [go_sem]) (by simp +decide only [go_sem]; try rfl) (by simp +decide only [go_sem]; try rfl) ?_
    refine o_end (hK _ _ ?_); clear hK K
    simp +decide only [go_sem]
    refine w_ret ?_
    refine (hQQ _ _ _ rfl ⟨?_, rfl⟩).1
    simp +decide only [go_sem]
    have : Up l l.length := by rw [show l.length = i by omega]; exact hup
    rw [decide_eq_true this]

end Go.W
