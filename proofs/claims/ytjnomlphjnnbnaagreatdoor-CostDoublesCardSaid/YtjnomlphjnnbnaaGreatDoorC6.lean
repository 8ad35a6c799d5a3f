/- The law CostDoubles: the walk. Conditions: none. -/
import Derived.Test.YtjnomlphjnnbnaaGreatDoorC2
import Derived.Test.YtjnomlphjnnbnaaGreatDoorC3
import Derived.Test.YtjnomlphjnnbnaaGreatDoorC4
import Derived.Test.YtjnomlphjnnbnaaGreatDoorC5
set_option linter.unusedVariables false
set_option linter.unusedSimpArgs false
set_option maxRecDepth 100000
namespace Go.W
open Go.Proofs

theorem runs : ∀ n, 1 ≤ n → n ≤ 16 → runC n = true
  | 0, h, _ => by omega
  | 1, _, _ => run1
  | 2, _, _ => run2
  | 3, _, _ => run3
  | 4, _, _ => run4
  | 5, _, _ => run5
  | 6, _, _ => run6
  | 7, _, _ => run7
  | 8, _, _ => run8
  | 9, _, _ => run9
  | 10, _, _ => run10
  | 11, _, _ => run11
  | 12, _, _ => run12
  | 13, _, _ => run13
  | 14, _, _ => run14
  | 15, _, _ => run15
  | 16, _, _ => run16
  | n + 17, _, h => by omega

theorem F3 : cx.F 3 = some Tryz.f3 := by kernel_rfl
theorem F4 : cx.F 4 = some Tryz.f4 := by kernel_rfl

attribute [local go_sem] wantedA aOp val1 val2 ev evs absC absCs of_get tget tset of_put of_put0 of_n aBinT aBin aUn aConvert kindOf cx_D tyD3 tyD4 tyD5
  Option.map_some Option.bind_some Option.map_none Option.bind_none List.zipIdx_cons List.zipIdx_nil List.map_cons List.map_nil pick Then_n Then_x Then_r Blk_n Blk_x Blk_r
  F4 Option.isSome_some List.append_nil List.nil_append if_true if_false ite_true ite_false List.getElem?_toArray List.getElem?_cons_zero List.getElem?_cons_succ List.toList_toArray beq_self_eq_true Bool.not_true Bool.not_false

theorem law_call (m : Int) (h0 : 0 ≤ m) (h1 : m ≤ 255) : SCall cx 3 [.int .u8 m] [] (fun v _ => v = .bool true) := by
  refine SCall_of_does cx_ok F3 rfl ?_
  rw [enter_of Tryz.f3 [.int .u8 m] 99 rfl]
  simp +decide only [go_sem]
  refine Does.seq (fun t σ => t = T.of 99 [(0, .int .u8 m), (2, .bool false)] ∧ σ = []) (Does.walk (f := 3) cx_ok (w_reg [0, 2] fun K hK => ?_)) ?_
  · repeat refine o_val (by simp +decide only [go_sem]) (by simp +decide only [go_sem]; try rfl) (by simp +decide only [go_sem]; try rfl) ?_
    refine o_end (hK _ _ ?_); clear hK K
    simp +decide only [go_sem]
  rintro t σ ⟨rfl, rfl⟩
  refine Does.seq (fun t σ => t = T.of 99 [(0, .int .u8 m), (2, .bool false), (12, .bool false)] ∧ σ = List.replicate 1227 .dead) (Does.walk (f := 3) cx_ok (w_seq (w_reg_kill [0, 2, 12] fun K hK => ?_))) ?_
  · refine o_call (by simp +decide only [go_sem]) (by simp +decide only [go_sem]; try rfl) ( works_call) ?_
    rintro v σ' ⟨rfl, hlen⟩
    refine ⟨_, by simp +decide only [go_sem]; try rfl, ?_⟩
    refine o_val (by simp +decide only [go_sem]) (by simp +decide only [go_sem]; try rfl) (by simp +decide only [go_sem]; try rfl) ?_
    refine o_end (hK _ _ ?_); clear hK K
    simp +decide only [go_sem]
    rw [hlen]
    refine w_cond (v := false) (by simp +decide only [go_sem]) (fun h => by simp at h) (fun _ => w_skip ?_)
    simp +decide only [go_sem]
  rintro t σ ⟨rfl, rfl⟩
  have hk : IntKind.i64.wrap (1 + IntKind.i64.wrap (m.tmod 16)) = (((m % 16).toNat + 1 : Nat) : Int) := by
    have e : m.tmod 16 = m % 16 := Int.tmod_eq_emod_of_nonneg h0
    rw [e, IntWalk.i64_in (m % 16) (by omega)]
    exact i64_nat (by omega) (by omega)
  refine Does.seq (fun t σ => t = T.of 99 [(2, .bool false), (3, int ((m % 16).toNat + 1))] ∧ σ = List.replicate 1227 .dead) (Does.walk (f := 3) cx_ok (w_reg [2, 3] fun K hK => ?_)) ?_
  · refine o_val (by simp +decide only [go_sem]) (by simp +decide only [go_sem]; try rfl) (by simp +decide only [go_sem]; try rfl) ?_
    refine o_val (by simp +decide only [go_sem]) (by simp +decide only [go_sem, Int.reduceEq]; try rfl) (by simp +decide only [go_sem]; try rfl) ?_
    refine o_val (by simp +decide only [go_sem]) (by simp +decide only [go_sem]; try rfl) (by simp +decide only [go_sem]; try rfl) ?_
    refine o_val (by simp +decide only [go_sem]) (by simp +decide only [go_sem, hk]; try rfl) (by simp +decide only [go_sem]; try rfl) ?_
    refine o_val (by simp +decide only [go_sem]) (by simp +decide only [go_sem]; try rfl) (by simp +decide only [go_sem]; try rfl) ?_
    refine o_end (hK _ _ ?_); clear hK K
    simp +decide only [go_sem]
    exact ⟨rfl, trivial⟩
  rintro t σ ⟨rfl, rfl⟩
  exact runC_does (runs _ (by omega) (by omega)) (fun _ => rfl)
end Go.W
