/- The law CostDoubles: its example carried out; the grammars it makes; what is behind the count of rules. Conditions: none. -/
import Derived.Test.YtjnomlphjnnbnaaGreatDoorX6
import Derived.Test.YtjnomlphjnnbnaaGreatDoorCx
set_option linter.unusedVariables false
set_option maxRecDepth 100000
namespace Go.W
open Go.Proofs

theorem works_run : comesTo' (kRun cx 1000000 4 [] ⟨0, .e⟩) (.bool true) 1227 = true := by kernel_rfl
theorem works_call : SCall cx 4 [] [] fun v σ => v = .bool true ∧ σ.length = 1227 := SCall_comes' cx_ok cx_memo works_run

def int (n : Nat) : AV := .int .i64 (n : Int)
def letter (r : Nat) : AV := .str [UInt8.ofNat (97 + r)]
def gRule (r : Nat) : List AV := [letter r, .list [] .no, .list [] .no, int (3 * r), int 0]
def gRef (r : Nat) : List AV := [int 2, letter r, .str [], int r, .list [] .no, int 0]
def gSeq (r : Nat) : List AV := [int 3, .str [], .str [], int 0, .list [[int (3 * r + 1)], [int (3 * r + 2)]] .no, int 0]
/-- The grammar of so many rules. -/
def gLit (n : Nat) : AV := .agg [.str [103], int 1, .list [[.str [88]]] .no, .list ((List.range n).map gRule) .no,
  .list ((List.range (n - 1)).flatMap (fun r => [gSeq r, gRef (r + 1), gRef (r + 1)]) ++ [[int 1, .str [88], .str [], int 1, .list [] .no, int 0]]) .no]

/-- gram.May of that grammar is told beforehand. -/
def memoT (n : Nat) (g : FuncId) (args : List AV) : Option AV := match Nat.beq g 18 with
  | true => (match bareL args with
    | some a => (match sameL a [gLit n] with | true => some (int 0) | false => none)
    | none => none)
  | false => none
noncomputable def cxM (n : Nat) : Ctx := { cx with memo := memoT n }
theorem cxM_ok (n : Nat) : COk (cxM n) := ⟨cx_ok.mixed, cx_ok.ty, cx_ok.eq, cx_ok.ext, cx_ok.fn⟩
theorem glob_bare_cx : ∀ g cs, cx.G g = some cs → bareL cs = some cs := by
  intro g cs h
  simp only [cx] at h
  unfold globT at h
  split at h
  · simp only [Option.some.injEq] at h; subst h; rfl
  · simp at h
noncomputable def mayC (n : Nat) : Bool := comesTo (kRun cx 1000000 18 [gLit n] ⟨0, .e⟩) (int 0)
theorem cxM_memo {n : Nat} (h : mayC n = true) : MemoOk (cxM n) := by
  intro g args v hm σ
  have hm' : memoT n g args = some v := hm
  unfold memoT at hm'
  split at hm'
  · rename_i hg
    obtain rfl : g = 18 := Nat.eq_of_beq_eq_true hg
    split at hm'
    · rename_i a ha
      split at hm'
      · rename_i hs
        simp only [Option.some.injEq] at hm'; subst hm'
        obtain rfl := sameL_eq _ _ hs
        exact SCall.congr (C := cx) (C' := cxM n) rfl rfl (SCall.frame glob_bare_cx (SCall_comes cx_ok cx_memo h) rfl ha)
      · simp at hm'
    · simp at hm'
  · simp at hm'

/-- The body behind the count of rules. -/
noncomputable def restC : Code := match Tryz.f3.body with
  | some (.seq _ (.seq _ (.seq _ r))) => r
  | _ => .skip
noncomputable def runC (n : Nat) : Bool := mayC n && restTo (cxM n) 1000000 3 Tryz.f3 99 restC (slotsOf [(2, .bool false), (3, int n)]) ⟨1227, .e⟩ (.bool true)
theorem runC_does {n : Nat} (h : runC n = true) {Q : AV → AS → Prop} (hQ : ∀ σ, Q (.bool true) σ) : Does cx restC (RetQ cx Tryz.f3 Q) (T.of 99 [(2, .bool false), (3, int n)]) (List.replicate 1227 .dead) := by
  unfold runC at h
  rw [Bool.and_eq_true] at h
  have := rest_does (cxM_ok n) (cxM_memo h.1) hQ h.2
  rw [slotsOf_T, dead_as] at this
  intro B w0 d E0 E ww w a W HT x hd
  have W1 : WRel (cxM n) B w0 E (List.replicate 1227 .dead) w := ⟨W.below, W.size, W.imm, W.obj, W.inj, W.fresh, W.glob⟩
  refine wp_mono (this B w0 d E0 E ww w a W1 HT x hd) fun e a' w' hq => ?_
  obtain ⟨y, hy, t', σ', E', hq, W', r⟩ := hq
  exact ⟨y, hy, t', σ', E', hq, ⟨W'.below, W'.size, W'.imm, W'.obj, W'.inj, W'.fresh, W'.glob⟩, r⟩
theorem run1 : runC 1 = true := by kernel_rfl
theorem run2 : runC 2 = true := by kernel_rfl
end Go.W
