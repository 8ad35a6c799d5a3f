/- The program's types as a table, proved to be the program's, and the context of the evaluator. Conditions: none. -/
import Derived.Test.YtldkompnddnojaaGreatDoorX4
import Derived.Test.YtldkompnddnojaaGreatDoorX5
import Derived.Test.YtldkompnddnojaaGreatDoorW18
import Derived.Test.YtldkompnddnojaaGreatDoorProg
import Derived.KernelRfl
set_option linter.unusedVariables false
set_option maxRecDepth 100000
namespace Go.W
open Go.Proofs

def kdOf : TypeDesc → TK
  | .int k => .scal k
  | .bool => .bool
  | .string => .str
  | .pointer e => .ptr e
  | .slice e => .slice e
  | .array n e => .array n e
  | .map k e => .map k e
  | .struct fs => .struct (fs.toList.map fun f => (f.offset, f.type))
  | .func _ _ _ => .func
  | _ => .struct [(0, 0), (0, 0)]
def kdGood : TypeDesc → Bool
  | .int _ | .bool | .string | .pointer _ | .slice _ | .array _ _ | .map _ _ | .struct _ | .func _ _ _ => true
  | _ => false
theorem kdOf_ok (u : TypeDesc) (h : kdGood u = true) : KdOk (kdOf u) u := by
  cases u <;> simp [kdGood] at h <;> simp [kdOf, KdOk]
theorem tyOk_of {P : Program} {t : TypeId} {d : TD} {z : Value} (h1 : (P.info? t).map (fun i => (i.zero, i.size, i.bytes)) = some (some z, d.size, d.bytes)) (h2 : (P.underlying t).map (fun u => (kdOf u, kdGood u)) = some (d.kd, true))
    (h3 : absCs z.cells.toList = some d.zero) (h4 : d.zero.length = d.size) (h5 : (match z with | .agg _ => true | _ => false) = d.kd.isAgg) : TyOk P t d := by
  constructor
  · obtain ⟨i, hi, hj⟩ := Option.map_eq_some_iff.1 h1
    simp only [Prod.mk.injEq] at hj
    refine ⟨i, z, hi, hj.2.1, hj.2.2, hj.1, h3, h4, fun ha => ?_, fun ha => ?_⟩
    · rw [ha] at h5; cases z <;> simp at h5; exact ⟨_, rfl⟩
    · rw [ha] at h5; cases z <;> first | rfl | simp at h5 | skip
      have hl : d.size = 1 ∨ True := .inr trivial
      simp [Value.cells, absCs, absC] at h3
  · obtain ⟨u, hu, hj⟩ := Option.map_eq_some_iff.1 h2
    simp only [Prod.mk.injEq] at hj
    exact ⟨u, hu, hj.1 ▸ kdOf_ok u hj.2⟩

def tyD : TypeId → Option TD
  | 1 => some ⟨.func, 1, 8, [.nilf]⟩
  | 2 => some ⟨(.scal .i64), 1, 8, [(.int .i64 0)]⟩
  | 3 => some ⟨(.scal .i64), 1, 8, [(.int .i64 0)]⟩
  | 4 => some ⟨.bool, 1, 1, [(.bool false)]⟩
  | 5 => some ⟨(.scal .u8), 1, 1, [(.int .u8 0)]⟩
  | 6 => some ⟨(.scal .u8), 1, 1, [(.int .u8 0)]⟩
  | 7 => some ⟨(.struct [(0, 2), (1, 3), (2, 4), (3, 6)]), 4, 24, [(.int .i64 0), (.int .i64 0), (.bool false), (.int .u8 0)]⟩
  | 8 => some ⟨(.struct [(0, 2), (1, 3), (2, 4), (3, 6)]), 4, 24, [(.int .i64 0), (.int .i64 0), (.bool false), (.int .u8 0)]⟩
  | 9 => some ⟨.str, 1, 16, [(.str [])]⟩
  | 10 => some ⟨.str, 1, 16, [(.str [])]⟩
  | 11 => some ⟨.str, 1, 16, [(.str [])]⟩
  | 12 => some ⟨(.scal .u64), 1, 8, [(.int .u64 0)]⟩
  | 13 => some ⟨(.struct [(0, 9), (1, 12)]), 2, 24, [(.str []), (.int .u64 0)]⟩
  | 14 => some ⟨(.struct [(0, 9), (1, 12)]), 2, 24, [(.str []), (.int .u64 0)]⟩
  | 15 => some ⟨(.ptr 172), 1, 8, [.nilp]⟩
  | 16 => some ⟨(.ptr 175), 1, 8, [.nilp]⟩
  | 17 => some ⟨(.ptr 184), 1, 8, [.nilp]⟩
  | 18 => some ⟨(.struct [(0, 17)]), 1, 8, [.nilp]⟩
  | 19 => some ⟨(.struct [(0, 17)]), 1, 8, [.nilp]⟩
  | 21 => some ⟨(.scal .i32), 1, 4, [(.int .i32 0)]⟩
  | 22 => some ⟨(.slice 24), 1, 24, [(.list [] .nil)]⟩
  | 23 => some ⟨(.struct [(0, 3), (1, 3), (2, 3)]), 3, 24, [(.int .i64 0), (.int .i64 0), (.int .i64 0)]⟩
  | 24 => some ⟨(.struct [(0, 3), (1, 3), (2, 3)]), 3, 24, [(.int .i64 0), (.int .i64 0), (.int .i64 0)]⟩
  | 25 => some ⟨.func, 1, 8, [.nilf]⟩
  | 26 => some ⟨.func, 1, 8, [.nilf]⟩
  | 27 => some ⟨(.slice 9), 1, 24, [(.list [] .nil)]⟩
  | 28 => some ⟨(.slice 56), 1, 24, [(.list [] .nil)]⟩
  | 29 => some ⟨(.slice 59), 1, 24, [(.list [] .nil)]⟩
  | 30 => some ⟨(.struct [(0, 9), (1, 3), (2, 27), (3, 28), (4, 29)]), 5, 96, [(.str []), (.int .i64 0), (.list [] .nil), (.list [] .nil), (.list [] .nil)]⟩
  | 31 => some ⟨(.struct [(0, 9), (1, 3), (2, 27), (3, 28), (4, 29)]), 5, 96, [(.str []), (.int .i64 0), (.list [] .nil), (.list [] .nil), (.list [] .nil)]⟩
  | 32 => some ⟨(.scal .i64), 1, 8, [(.int .i64 0)]⟩
  | 34 => some ⟨.func, 1, 8, [.nilf]⟩
  | 35 => some ⟨.func, 1, 8, [.nilf]⟩
  | 37 => some ⟨.func, 1, 8, [.nilf]⟩
  | 38 => some ⟨(.slice 69), 1, 24, [(.list [] .nil)]⟩
  | 40 => some ⟨.func, 1, 8, [.nilf]⟩
  | 41 => some ⟨(.ptr 45), 1, 8, [.nilp]⟩
  | 42 => some ⟨(.ptr 74), 1, 8, [.nilp]⟩
  | 43 => some ⟨.func, 1, 8, [.nilf]⟩
  | 44 => some ⟨(.struct [(0, 42), (1, 32), (2, 3), (3, 3), (4, 31)]), 9, 128, [.nilp, (.int .i64 0), (.int .i64 0), (.int .i64 0), (.str []), (.int .i64 0), (.list [] .nil), (.list [] .nil), (.list [] .nil)]⟩
  | 45 => some ⟨(.struct [(0, 42), (1, 32), (2, 3), (3, 3), (4, 31)]), 9, 128, [.nilp, (.int .i64 0), (.int .i64 0), (.int .i64 0), (.str []), (.int .i64 0), (.list [] .nil), (.list [] .nil), (.list [] .nil)]⟩
  | 46 => some ⟨.func, 1, 8, [.nilf]⟩
  | 47 => some ⟨.func, 1, 8, [.nilf]⟩
  | 48 => some ⟨(.slice 3), 1, 24, [(.list [] .nil)]⟩
  | 49 => some ⟨.func, 1, 8, [.nilf]⟩
  | 50 => some ⟨(.map 9 3), 1, 8, [.nilm]⟩
  | 51 => some ⟨(.struct [(0, 50), (1, 50)]), 2, 16, [.nilm, .nilm]⟩
  | 52 => some ⟨(.struct [(0, 50), (1, 50)]), 2, 16, [.nilm, .nilm]⟩
  | 53 => some ⟨.func, 1, 8, [.nilf]⟩
  | 54 => some ⟨.func, 1, 8, [.nilf]⟩
  | 55 => some ⟨(.struct [(0, 9), (1, 27), (2, 48), (3, 3), (4, 3)]), 5, 80, [(.str []), (.list [] .nil), (.list [] .nil), (.int .i64 0), (.int .i64 0)]⟩
  | 56 => some ⟨(.struct [(0, 9), (1, 27), (2, 48), (3, 3), (4, 3)]), 5, 80, [(.str []), (.list [] .nil), (.list [] .nil), (.int .i64 0), (.int .i64 0)]⟩
  | 57 => some ⟨.func, 1, 8, [.nilf]⟩
  | 58 => some ⟨(.struct [(0, 3), (1, 9), (2, 9), (3, 3), (4, 48), (5, 3)]), 6, 80, [(.int .i64 0), (.str []), (.str []), (.int .i64 0), (.list [] .nil), (.int .i64 0)]⟩
  | 59 => some ⟨(.struct [(0, 3), (1, 9), (2, 9), (3, 3), (4, 48), (5, 3)]), 6, 80, [(.int .i64 0), (.str []), (.str []), (.int .i64 0), (.list [] .nil), (.int .i64 0)]⟩
  | 61 => some ⟨.func, 1, 8, [.nilf]⟩
  | 63 => some ⟨.func, 1, 8, [.nilf]⟩
  | 64 => some ⟨.func, 1, 8, [.nilf]⟩
  | 66 => some ⟨.func, 1, 8, [.nilf]⟩
  | 67 => some ⟨(.ptr 71), 1, 8, [.nilp]⟩
  | 68 => some ⟨(.struct [(0, 3), (1, 9), (2, 3), (3, 3)]), 4, 40, [(.int .i64 0), (.str []), (.int .i64 0), (.int .i64 0)]⟩
  | 69 => some ⟨(.struct [(0, 3), (1, 9), (2, 3), (3, 3)]), 4, 40, [(.int .i64 0), (.str []), (.int .i64 0), (.int .i64 0)]⟩
  | 70 => some ⟨(.struct [(0, 9), (1, 3), (2, 3), (3, 69), (7, 32)]), 8, 80, [(.str []), (.int .i64 0), (.int .i64 0), (.int .i64 0), (.str []), (.int .i64 0), (.int .i64 0), (.int .i64 0)]⟩
  | 71 => some ⟨(.struct [(0, 9), (1, 3), (2, 3), (3, 69), (7, 32)]), 8, 80, [(.str []), (.int .i64 0), (.int .i64 0), (.int .i64 0), (.str []), (.int .i64 0), (.int .i64 0), (.int .i64 0)]⟩
  | 72 => some ⟨.func, 1, 8, [.nilf]⟩
  | 73 => some ⟨(.struct [(0, 38), (1, 3)]), 2, 32, [(.list [] .nil), (.int .i64 0)]⟩
  | 74 => some ⟨(.struct [(0, 38), (1, 3)]), 2, 32, [(.list [] .nil), (.int .i64 0)]⟩
  | 75 => some ⟨.func, 1, 8, [.nilf]⟩
  | 76 => some ⟨.func, 1, 8, [.nilf]⟩
  | 77 => some ⟨.func, 1, 8, [.nilf]⟩
  | 78 => some ⟨.func, 1, 8, [.nilf]⟩
  | 79 => some ⟨.func, 1, 8, [.nilf]⟩
  | 80 => some ⟨.func, 1, 8, [.nilf]⟩
  | 81 => some ⟨.func, 1, 8, [.nilf]⟩
  | 82 => some ⟨.func, 1, 8, [.nilf]⟩
  | 83 => some ⟨.func, 1, 8, [.nilf]⟩
  | 84 => some ⟨(.slice 86), 1, 24, [(.list [] .nil)]⟩
  | 85 => some ⟨(.struct [(0, 59), (6, 84)]), 7, 104, [(.int .i64 0), (.str []), (.str []), (.int .i64 0), (.list [] .nil), (.int .i64 0), (.list [] .nil)]⟩
  | 86 => some ⟨(.struct [(0, 59), (6, 84)]), 7, 104, [(.int .i64 0), (.str []), (.str []), (.int .i64 0), (.list [] .nil), (.int .i64 0), (.list [] .nil)]⟩
  | 87 => some ⟨.func, 1, 8, [.nilf]⟩
  | 88 => some ⟨.func, 1, 8, [.nilf]⟩
  | 89 => some ⟨.func, 1, 8, [.nilf]⟩
  | 90 => some ⟨.func, 1, 8, [.nilf]⟩
  | 91 => some ⟨.func, 1, 8, [.nilf]⟩
  | 92 => some ⟨.func, 1, 8, [.nilf]⟩
  | 93 => some ⟨(.slice 136), 1, 24, [(.list [] .nil)]⟩
  | 94 => some ⟨(.struct [(0, 3), (1, 3), (2, 48), (3, 93)]), 4, 64, [(.int .i64 0), (.int .i64 0), (.list [] .nil), (.list [] .nil)]⟩
  | 95 => some ⟨(.struct [(0, 3), (1, 3), (2, 48), (3, 93)]), 4, 64, [(.int .i64 0), (.int .i64 0), (.list [] .nil), (.list [] .nil)]⟩
  | 97 => some ⟨.func, 1, 8, [.nilf]⟩
  | 98 => some ⟨(.struct [(0, 31), (5, 95)]), 9, 160, [(.str []), (.int .i64 0), (.list [] .nil), (.list [] .nil), (.list [] .nil), (.int .i64 0), (.int .i64 0), (.list [] .nil), (.list [] .nil)]⟩
  | 99 => some ⟨(.struct [(0, 31), (5, 95)]), 9, 160, [(.str []), (.int .i64 0), (.list [] .nil), (.list [] .nil), (.list [] .nil), (.int .i64 0), (.int .i64 0), (.list [] .nil), (.list [] .nil)]⟩
  | 101 => some ⟨.func, 1, 8, [.nilf]⟩
  | 102 => some ⟨.func, 1, 8, [.nilf]⟩
  | 103 => some ⟨.func, 1, 8, [.nilf]⟩
  | 105 => some ⟨.func, 1, 8, [.nilf]⟩
  | 106 => some ⟨.func, 1, 8, [.nilf]⟩
  | 107 => some ⟨.func, 1, 8, [.nilf]⟩
  | 108 => some ⟨.func, 1, 8, [.nilf]⟩
  | 109 => some ⟨.func, 1, 8, [.nilf]⟩
  | 110 => some ⟨.func, 1, 8, [.nilf]⟩
  | 111 => some ⟨(.map 9 4), 1, 8, [.nilm]⟩
  | 112 => some ⟨.func, 1, 8, [.nilf]⟩
  | 113 => some ⟨.func, 1, 8, [.nilf]⟩
  | 114 => some ⟨.func, 1, 8, [.nilf]⟩
  | 115 => some ⟨.func, 1, 8, [.nilf]⟩
  | 116 => some ⟨.func, 1, 8, [.nilf]⟩
  | 117 => some ⟨(.ptr 121), 1, 8, [.nilp]⟩
  | 119 => some ⟨.func, 1, 8, [.nilf]⟩
  | 120 => some ⟨(.struct [(0, 31), (5, 48), (6, 95)]), 10, 184, [(.str []), (.int .i64 0), (.list [] .nil), (.list [] .nil), (.list [] .nil), (.list [] .nil), (.int .i64 0), (.int .i64 0), (.list [] .nil), (.list [] .nil)]⟩
  | 121 => some ⟨(.struct [(0, 31), (5, 48), (6, 95)]), 10, 184, [(.str []), (.int .i64 0), (.list [] .nil), (.list [] .nil), (.list [] .nil), (.list [] .nil), (.int .i64 0), (.int .i64 0), (.list [] .nil), (.list [] .nil)]⟩
  | 123 => some ⟨.func, 1, 8, [.nilf]⟩
  | 124 => some ⟨.func, 1, 8, [.nilf]⟩
  | 125 => some ⟨.func, 1, 8, [.nilf]⟩
  | 126 => some ⟨.func, 1, 8, [.nilf]⟩
  | 127 => some ⟨.func, 1, 8, [.nilf]⟩
  | 128 => some ⟨.func, 1, 8, [.nilf]⟩
  | 129 => some ⟨.func, 1, 8, [.nilf]⟩
  | 130 => some ⟨.func, 1, 8, [.nilf]⟩
  | 131 => some ⟨(.slice 146), 1, 24, [(.list [] .nil)]⟩
  | 132 => some ⟨.func, 1, 8, [.nilf]⟩
  | 133 => some ⟨.func, 1, 8, [.nilf]⟩
  | 134 => some ⟨.func, 1, 8, [.nilf]⟩
  | 135 => some ⟨(.struct [(0, 3), (1, 131)]), 2, 32, [(.int .i64 0), (.list [] .nil)]⟩
  | 136 => some ⟨(.struct [(0, 3), (1, 131)]), 2, 32, [(.int .i64 0), (.list [] .nil)]⟩
  | 137 => some ⟨.func, 1, 8, [.nilf]⟩
  | 138 => some ⟨.func, 1, 8, [.nilf]⟩
  | 139 => some ⟨(.array 10 5), 10, 10, [(.int .u8 0), (.int .u8 0), (.int .u8 0), (.int .u8 0), (.int .u8 0), (.int .u8 0), (.int .u8 0), (.int .u8 0), (.int .u8 0), (.int .u8 0)]⟩
  | 140 => some ⟨(.slice 5), 1, 24, [(.list [] .nil)]⟩
  | 141 => some ⟨(.array 4 9), 4, 64, [(.str []), (.str []), (.str []), (.str [])]⟩
  | 142 => some ⟨.func, 1, 8, [.nilf]⟩
  | 143 => some ⟨.func, 1, 8, [.nilf]⟩
  | 144 => some ⟨.func, 1, 8, [.nilf]⟩
  | 145 => some ⟨(.struct [(0, 4), (1, 3)]), 2, 16, [(.bool false), (.int .i64 0)]⟩
  | 146 => some ⟨(.struct [(0, 4), (1, 3)]), 2, 16, [(.bool false), (.int .i64 0)]⟩
  | 147 => some ⟨.func, 1, 8, [.nilf]⟩
  | 148 => some ⟨.func, 1, 8, [.nilf]⟩
  | 149 => some ⟨.func, 1, 8, [.nilf]⟩
  | 150 => some ⟨.func, 1, 8, [.nilf]⟩
  | 151 => some ⟨.func, 1, 8, [.nilf]⟩
  | 152 => some ⟨.func, 1, 8, [.nilf]⟩
  | 153 => some ⟨.func, 1, 8, [.nilf]⟩
  | 154 => some ⟨.func, 1, 8, [.nilf]⟩
  | 155 => some ⟨(.struct [(0, 31)]), 5, 96, [(.str []), (.int .i64 0), (.list [] .nil), (.list [] .nil), (.list [] .nil)]⟩
  | 156 => some ⟨(.struct [(0, 31)]), 5, 96, [(.str []), (.int .i64 0), (.list [] .nil), (.list [] .nil), (.list [] .nil)]⟩
  | 157 => some ⟨.func, 1, 8, [.nilf]⟩
  | 158 => some ⟨.func, 1, 8, [.nilf]⟩
  | 159 => some ⟨(.ptr 161), 1, 8, [.nilp]⟩
  | 160 => some ⟨(.struct [(0, 159), (1, 140)]), 2, 32, [.nilp, (.list [] .nil)]⟩
  | 161 => some ⟨(.struct [(0, 159), (1, 140)]), 2, 32, [.nilp, (.list [] .nil)]⟩
  | 165 => some ⟨.func, 1, 8, [.nilf]⟩
  | 166 => some ⟨.func, 1, 8, [.nilf]⟩
  | 167 => some ⟨(.ptr 5), 1, 8, [.nilp]⟩
  | 169 => some ⟨.func, 1, 8, [.nilf]⟩
  | 170 => some ⟨.func, 1, 8, [.nilf]⟩
  | 171 => some ⟨(.struct [(0, 17), (1, 17), (2, 17), (3, 9)]), 4, 40, [.nilp, .nilp, .nilp, (.str [])]⟩
  | 172 => some ⟨(.struct [(0, 17), (1, 17), (2, 17), (3, 9)]), 4, 40, [.nilp, .nilp, .nilp, (.str [])]⟩
  | 173 => some ⟨(.array 0 16), 0, 0, []⟩
  | 174 => some ⟨(.struct [(0, 173)]), 0, 0, []⟩
  | 175 => some ⟨(.struct [(0, 173)]), 0, 0, []⟩
  | 176 => some ⟨.func, 1, 8, [.nilf]⟩
  | 177 => some ⟨(.scal .u32), 1, 4, [(.int .u32 0)]⟩
  | 178 => some ⟨(.scal .u8), 1, 1, [(.int .u8 0)]⟩
  | 179 => some ⟨(.scal .u8), 1, 1, [(.int .u8 0)]⟩
  | 180 => some ⟨.func, 1, 8, [.nilf]⟩
  | 181 => some ⟨(.scal .i32), 1, 4, [(.int .i32 0)]⟩
  | 182 => some ⟨(.scal .i32), 1, 4, [(.int .i32 0)]⟩
  | 183 => some ⟨(.struct [(0, 12), (1, 12), (2, 177), (3, 178), (4, 5), (5, 5), (6, 179), (7, 180), (8, 167), (9, 181), (10, 182)]), 11, 48, [(.int .u64 0), (.int .u64 0), (.int .u32 0), (.int .u8 0), (.int .u8 0), (.int .u8 0), (.int .u8 0), .nilf, .nilp, (.int .i32 0), (.int .i32 0)]⟩
  | 184 => some ⟨(.struct [(0, 12), (1, 12), (2, 177), (3, 178), (4, 5), (5, 5), (6, 179), (7, 180), (8, 167), (9, 181), (10, 182)]), 11, 48, [(.int .u64 0), (.int .u64 0), (.int .u32 0), (.int .u8 0), (.int .u8 0), (.int .u8 0), (.int .u8 0), .nilf, .nilp, (.int .i32 0), (.int .i32 0)]⟩
  | _ => none

theorem tyOk1 : TyOk Tryz.prog 1 ⟨.func, 1, 8, [.nilf]⟩ := tyOk_of (z := .nilFunc) (by kernel_rfl) (by kernel_rfl) (by kernel_rfl) rfl rfl
theorem tyOk2 : TyOk Tryz.prog 2 ⟨(.scal .i64), 1, 8, [(.int .i64 0)]⟩ := tyOk_of (z := (.int .i64 0)) (by kernel_rfl) (by kernel_rfl) (by kernel_rfl) rfl rfl
theorem tyOk3 : TyOk Tryz.prog 3 ⟨(.scal .i64), 1, 8, [(.int .i64 0)]⟩ := tyOk_of (z := (.int .i64 0)) (by kernel_rfl) (by kernel_rfl) (by kernel_rfl) rfl rfl
theorem tyOk4 : TyOk Tryz.prog 4 ⟨.bool, 1, 1, [(.bool false)]⟩ := tyOk_of (z := (.bool false)) (by kernel_rfl) (by kernel_rfl) (by kernel_rfl) rfl rfl
theorem tyOk5 : TyOk Tryz.prog 5 ⟨(.scal .u8), 1, 1, [(.int .u8 0)]⟩ := tyOk_of (z := (.int .u8 0)) (by kernel_rfl) (by kernel_rfl) (by kernel_rfl) rfl rfl
theorem tyOk6 : TyOk Tryz.prog 6 ⟨(.scal .u8), 1, 1, [(.int .u8 0)]⟩ := tyOk_of (z := (.int .u8 0)) (by kernel_rfl) (by kernel_rfl) (by kernel_rfl) rfl rfl
theorem tyOk7 : TyOk Tryz.prog 7 ⟨(.struct [(0, 2), (1, 3), (2, 4), (3, 6)]), 4, 24, [(.int .i64 0), (.int .i64 0), (.bool false), (.int .u8 0)]⟩ := tyOk_of (z := (.agg #[(.int .i64 0), (.int .i64 0), (.bool false), (.int .u8 0)])) (by kernel_rfl) (by kernel_rfl) (by kernel_rfl) rfl rfl
theorem tyOk8 : TyOk Tryz.prog 8 ⟨(.struct [(0, 2), (1, 3), (2, 4), (3, 6)]), 4, 24, [(.int .i64 0), (.int .i64 0), (.bool false), (.int .u8 0)]⟩ := tyOk_of (z := (.agg #[(.int .i64 0), (.int .i64 0), (.bool false), (.int .u8 0)])) (by kernel_rfl) (by kernel_rfl) (by kernel_rfl) rfl rfl
theorem tyOk9 : TyOk Tryz.prog 9 ⟨.str, 1, 16, [(.str [])]⟩ := tyOk_of (z := (.string ⟨#[]⟩)) (by kernel_rfl) (by kernel_rfl) (by kernel_rfl) rfl rfl
theorem tyOk10 : TyOk Tryz.prog 10 ⟨.str, 1, 16, [(.str [])]⟩ := tyOk_of (z := (.string ⟨#[]⟩)) (by kernel_rfl) (by kernel_rfl) (by kernel_rfl) rfl rfl
theorem tyOk11 : TyOk Tryz.prog 11 ⟨.str, 1, 16, [(.str [])]⟩ := tyOk_of (z := (.string ⟨#[]⟩)) (by kernel_rfl) (by kernel_rfl) (by kernel_rfl) rfl rfl
theorem tyOk12 : TyOk Tryz.prog 12 ⟨(.scal .u64), 1, 8, [(.int .u64 0)]⟩ := tyOk_of (z := (.int .u64 0)) (by kernel_rfl) (by kernel_rfl) (by kernel_rfl) rfl rfl
theorem tyOk13 : TyOk Tryz.prog 13 ⟨(.struct [(0, 9), (1, 12)]), 2, 24, [(.str []), (.int .u64 0)]⟩ := tyOk_of (z := (.agg #[(.string ⟨#[]⟩), (.int .u64 0)])) (by kernel_rfl) (by kernel_rfl) (by kernel_rfl) rfl rfl
theorem tyOk14 : TyOk Tryz.prog 14 ⟨(.struct [(0, 9), (1, 12)]), 2, 24, [(.str []), (.int .u64 0)]⟩ := tyOk_of (z := (.agg #[(.string ⟨#[]⟩), (.int .u64 0)])) (by kernel_rfl) (by kernel_rfl) (by kernel_rfl) rfl rfl
theorem tyOk15 : TyOk Tryz.prog 15 ⟨(.ptr 172), 1, 8, [.nilp]⟩ := tyOk_of (z := (.pointer none)) (by kernel_rfl) (by kernel_rfl) (by kernel_rfl) rfl rfl
theorem tyOk16 : TyOk Tryz.prog 16 ⟨(.ptr 175), 1, 8, [.nilp]⟩ := tyOk_of (z := (.pointer none)) (by kernel_rfl) (by kernel_rfl) (by kernel_rfl) rfl rfl
theorem tyOk17 : TyOk Tryz.prog 17 ⟨(.ptr 184), 1, 8, [.nilp]⟩ := tyOk_of (z := (.pointer none)) (by kernel_rfl) (by kernel_rfl) (by kernel_rfl) rfl rfl
theorem tyOk18 : TyOk Tryz.prog 18 ⟨(.struct [(0, 17)]), 1, 8, [.nilp]⟩ := tyOk_of (z := (.agg #[(.pointer none)])) (by kernel_rfl) (by kernel_rfl) (by kernel_rfl) rfl rfl
theorem tyOk19 : TyOk Tryz.prog 19 ⟨(.struct [(0, 17)]), 1, 8, [.nilp]⟩ := tyOk_of (z := (.agg #[(.pointer none)])) (by kernel_rfl) (by kernel_rfl) (by kernel_rfl) rfl rfl
theorem tyOk21 : TyOk Tryz.prog 21 ⟨(.scal .i32), 1, 4, [(.int .i32 0)]⟩ := tyOk_of (z := (.int .i32 0)) (by kernel_rfl) (by kernel_rfl) (by kernel_rfl) rfl rfl
theorem tyOk22 : TyOk Tryz.prog 22 ⟨(.slice 24), 1, 24, [(.list [] .nil)]⟩ := tyOk_of (z := (.slice none 0 0)) (by kernel_rfl) (by kernel_rfl) (by kernel_rfl) rfl rfl
theorem tyOk23 : TyOk Tryz.prog 23 ⟨(.struct [(0, 3), (1, 3), (2, 3)]), 3, 24, [(.int .i64 0), (.int .i64 0), (.int .i64 0)]⟩ := tyOk_of (z := (.agg #[(.int .i64 0), (.int .i64 0), (.int .i64 0)])) (by kernel_rfl) (by kernel_rfl) (by kernel_rfl) rfl rfl
theorem tyOk24 : TyOk Tryz.prog 24 ⟨(.struct [(0, 3), (1, 3), (2, 3)]), 3, 24, [(.int .i64 0), (.int .i64 0), (.int .i64 0)]⟩ := tyOk_of (z := (.agg #[(.int .i64 0), (.int .i64 0), (.int .i64 0)])) (by kernel_rfl) (by kernel_rfl) (by kernel_rfl) rfl rfl
theorem tyOk25 : TyOk Tryz.prog 25 ⟨.func, 1, 8, [.nilf]⟩ := tyOk_of (z := .nilFunc) (by kernel_rfl) (by kernel_rfl) (by kernel_rfl) rfl rfl
theorem tyOk26 : TyOk Tryz.prog 26 ⟨.func, 1, 8, [.nilf]⟩ := tyOk_of (z := .nilFunc) (by kernel_rfl) (by kernel_rfl) (by kernel_rfl) rfl rfl
theorem tyOk27 : TyOk Tryz.prog 27 ⟨(.slice 9), 1, 24, [(.list [] .nil)]⟩ := tyOk_of (z := (.slice none 0 0)) (by kernel_rfl) (by kernel_rfl) (by kernel_rfl) rfl rfl
theorem tyOk28 : TyOk Tryz.prog 28 ⟨(.slice 56), 1, 24, [(.list [] .nil)]⟩ := tyOk_of (z := (.slice none 0 0)) (by kernel_rfl) (by kernel_rfl) (by kernel_rfl) rfl rfl
theorem tyOk29 : TyOk Tryz.prog 29 ⟨(.slice 59), 1, 24, [(.list [] .nil)]⟩ := tyOk_of (z := (.slice none 0 0)) (by kernel_rfl) (by kernel_rfl) (by kernel_rfl) rfl rfl
theorem tyOk30 : TyOk Tryz.prog 30 ⟨(.struct [(0, 9), (1, 3), (2, 27), (3, 28), (4, 29)]), 5, 96, [(.str []), (.int .i64 0), (.list [] .nil), (.list [] .nil), (.list [] .nil)]⟩ := tyOk_of (z := (.agg #[(.string ⟨#[]⟩), (.int .i64 0), (.slice none 0 0), (.slice none 0 0), (.slice none 0 0)])) (by kernel_rfl) (by kernel_rfl) (by kernel_rfl) rfl rfl
theorem tyOk31 : TyOk Tryz.prog 31 ⟨(.struct [(0, 9), (1, 3), (2, 27), (3, 28), (4, 29)]), 5, 96, [(.str []), (.int .i64 0), (.list [] .nil), (.list [] .nil), (.list [] .nil)]⟩ := tyOk_of (z := (.agg #[(.string ⟨#[]⟩), (.int .i64 0), (.slice none 0 0), (.slice none 0 0), (.slice none 0 0)])) (by kernel_rfl) (by kernel_rfl) (by kernel_rfl) rfl rfl
theorem tyOk32 : TyOk Tryz.prog 32 ⟨(.scal .i64), 1, 8, [(.int .i64 0)]⟩ := tyOk_of (z := (.int .i64 0)) (by kernel_rfl) (by kernel_rfl) (by kernel_rfl) rfl rfl
theorem tyOk34 : TyOk Tryz.prog 34 ⟨.func, 1, 8, [.nilf]⟩ := tyOk_of (z := .nilFunc) (by kernel_rfl) (by kernel_rfl) (by kernel_rfl) rfl rfl
theorem tyOk35 : TyOk Tryz.prog 35 ⟨.func, 1, 8, [.nilf]⟩ := tyOk_of (z := .nilFunc) (by kernel_rfl) (by kernel_rfl) (by kernel_rfl) rfl rfl
theorem tyOk37 : TyOk Tryz.prog 37 ⟨.func, 1, 8, [.nilf]⟩ := tyOk_of (z := .nilFunc) (by kernel_rfl) (by kernel_rfl) (by kernel_rfl) rfl rfl
theorem tyOk38 : TyOk Tryz.prog 38 ⟨(.slice 69), 1, 24, [(.list [] .nil)]⟩ := tyOk_of (z := (.slice none 0 0)) (by kernel_rfl) (by kernel_rfl) (by kernel_rfl) rfl rfl
theorem tyOk40 : TyOk Tryz.prog 40 ⟨.func, 1, 8, [.nilf]⟩ := tyOk_of (z := .nilFunc) (by kernel_rfl) (by kernel_rfl) (by kernel_rfl) rfl rfl
theorem tyOk41 : TyOk Tryz.prog 41 ⟨(.ptr 45), 1, 8, [.nilp]⟩ := tyOk_of (z := (.pointer none)) (by kernel_rfl) (by kernel_rfl) (by kernel_rfl) rfl rfl
theorem tyOk42 : TyOk Tryz.prog 42 ⟨(.ptr 74), 1, 8, [.nilp]⟩ := tyOk_of (z := (.pointer none)) (by kernel_rfl) (by kernel_rfl) (by kernel_rfl) rfl rfl
theorem tyOk43 : TyOk Tryz.prog 43 ⟨.func, 1, 8, [.nilf]⟩ := tyOk_of (z := .nilFunc) (by kernel_rfl) (by kernel_rfl) (by kernel_rfl) rfl rfl
theorem tyOk44 : TyOk Tryz.prog 44 ⟨(.struct [(0, 42), (1, 32), (2, 3), (3, 3), (4, 31)]), 9, 128, [.nilp, (.int .i64 0), (.int .i64 0), (.int .i64 0), (.str []), (.int .i64 0), (.list [] .nil), (.list [] .nil), (.list [] .nil)]⟩ := tyOk_of (z := (.agg #[(.pointer none), (.int .i64 0), (.int .i64 0), (.int .i64 0), (.string ⟨#[]⟩), (.int .i64 0), (.slice none 0 0), (.slice none 0 0), (.slice none 0 0)])) (by kernel_rfl) (by kernel_rfl) (by kernel_rfl) rfl rfl
theorem tyOk45 : TyOk Tryz.prog 45 ⟨(.struct [(0, 42), (1, 32), (2, 3), (3, 3), (4, 31)]), 9, 128, [.nilp, (.int .i64 0), (.int .i64 0), (.int .i64 0), (.str []), (.int .i64 0), (.list [] .nil), (.list [] .nil), (.list [] .nil)]⟩ := tyOk_of (z := (.agg #[(.pointer none), (.int .i64 0), (.int .i64 0), (.int .i64 0), (.string ⟨#[]⟩), (.int .i64 0), (.slice none 0 0), (.slice none 0 0), (.slice none 0 0)])) (by kernel_rfl) (by kernel_rfl) (by kernel_rfl) rfl rfl
theorem tyOk46 : TyOk Tryz.prog 46 ⟨.func, 1, 8, [.nilf]⟩ := tyOk_of (z := .nilFunc) (by kernel_rfl) (by kernel_rfl) (by kernel_rfl) rfl rfl
theorem tyOk47 : TyOk Tryz.prog 47 ⟨.func, 1, 8, [.nilf]⟩ := tyOk_of (z := .nilFunc) (by kernel_rfl) (by kernel_rfl) (by kernel_rfl) rfl rfl
theorem tyOk48 : TyOk Tryz.prog 48 ⟨(.slice 3), 1, 24, [(.list [] .nil)]⟩ := tyOk_of (z := (.slice none 0 0)) (by kernel_rfl) (by kernel_rfl) (by kernel_rfl) rfl rfl
theorem tyOk49 : TyOk Tryz.prog 49 ⟨.func, 1, 8, [.nilf]⟩ := tyOk_of (z := .nilFunc) (by kernel_rfl) (by kernel_rfl) (by kernel_rfl) rfl rfl
theorem tyOk50 : TyOk Tryz.prog 50 ⟨(.map 9 3), 1, 8, [.nilm]⟩ := tyOk_of (z := (.map none)) (by kernel_rfl) (by kernel_rfl) (by kernel_rfl) rfl rfl
theorem tyOk51 : TyOk Tryz.prog 51 ⟨(.struct [(0, 50), (1, 50)]), 2, 16, [.nilm, .nilm]⟩ := tyOk_of (z := (.agg #[(.map none), (.map none)])) (by kernel_rfl) (by kernel_rfl) (by kernel_rfl) rfl rfl
theorem tyOk52 : TyOk Tryz.prog 52 ⟨(.struct [(0, 50), (1, 50)]), 2, 16, [.nilm, .nilm]⟩ := tyOk_of (z := (.agg #[(.map none), (.map none)])) (by kernel_rfl) (by kernel_rfl) (by kernel_rfl) rfl rfl
theorem tyOk53 : TyOk Tryz.prog 53 ⟨.func, 1, 8, [.nilf]⟩ := tyOk_of (z := .nilFunc) (by kernel_rfl) (by kernel_rfl) (by kernel_rfl) rfl rfl
theorem tyOk54 : TyOk Tryz.prog 54 ⟨.func, 1, 8, [.nilf]⟩ := tyOk_of (z := .nilFunc) (by kernel_rfl) (by kernel_rfl) (by kernel_rfl) rfl rfl
theorem tyOk55 : TyOk Tryz.prog 55 ⟨(.struct [(0, 9), (1, 27), (2, 48), (3, 3), (4, 3)]), 5, 80, [(.str []), (.list [] .nil), (.list [] .nil), (.int .i64 0), (.int .i64 0)]⟩ := tyOk_of (z := (.agg #[(.string ⟨#[]⟩), (.slice none 0 0), (.slice none 0 0), (.int .i64 0), (.int .i64 0)])) (by kernel_rfl) (by kernel_rfl) (by kernel_rfl) rfl rfl
theorem tyOk56 : TyOk Tryz.prog 56 ⟨(.struct [(0, 9), (1, 27), (2, 48), (3, 3), (4, 3)]), 5, 80, [(.str []), (.list [] .nil), (.list [] .nil), (.int .i64 0), (.int .i64 0)]⟩ := tyOk_of (z := (.agg #[(.string ⟨#[]⟩), (.slice none 0 0), (.slice none 0 0), (.int .i64 0), (.int .i64 0)])) (by kernel_rfl) (by kernel_rfl) (by kernel_rfl) rfl rfl
theorem tyOk57 : TyOk Tryz.prog 57 ⟨.func, 1, 8, [.nilf]⟩ := tyOk_of (z := .nilFunc) (by kernel_rfl) (by kernel_rfl) (by kernel_rfl) rfl rfl
theorem tyOk58 : TyOk Tryz.prog 58 ⟨(.struct [(0, 3), (1, 9), (2, 9), (3, 3), (4, 48), (5, 3)]), 6, 80, [(.int .i64 0), (.str []), (.str []), (.int .i64 0), (.list [] .nil), (.int .i64 0)]⟩ := tyOk_of (z := (.agg #[(.int .i64 0), (.string ⟨#[]⟩), (.string ⟨#[]⟩), (.int .i64 0), (.slice none 0 0), (.int .i64 0)])) (by kernel_rfl) (by kernel_rfl) (by kernel_rfl) rfl rfl
theorem tyOk59 : TyOk Tryz.prog 59 ⟨(.struct [(0, 3), (1, 9), (2, 9), (3, 3), (4, 48), (5, 3)]), 6, 80, [(.int .i64 0), (.str []), (.str []), (.int .i64 0), (.list [] .nil), (.int .i64 0)]⟩ := tyOk_of (z := (.agg #[(.int .i64 0), (.string ⟨#[]⟩), (.string ⟨#[]⟩), (.int .i64 0), (.slice none 0 0), (.int .i64 0)])) (by kernel_rfl) (by kernel_rfl) (by kernel_rfl) rfl rfl
theorem tyOk61 : TyOk Tryz.prog 61 ⟨.func, 1, 8, [.nilf]⟩ := tyOk_of (z := .nilFunc) (by kernel_rfl) (by kernel_rfl) (by kernel_rfl) rfl rfl
theorem tyOk63 : TyOk Tryz.prog 63 ⟨.func, 1, 8, [.nilf]⟩ := tyOk_of (z := .nilFunc) (by kernel_rfl) (by kernel_rfl) (by kernel_rfl) rfl rfl
theorem tyOk64 : TyOk Tryz.prog 64 ⟨.func, 1, 8, [.nilf]⟩ := tyOk_of (z := .nilFunc) (by kernel_rfl) (by kernel_rfl) (by kernel_rfl) rfl rfl
theorem tyOk66 : TyOk Tryz.prog 66 ⟨.func, 1, 8, [.nilf]⟩ := tyOk_of (z := .nilFunc) (by kernel_rfl) (by kernel_rfl) (by kernel_rfl) rfl rfl
theorem tyOk67 : TyOk Tryz.prog 67 ⟨(.ptr 71), 1, 8, [.nilp]⟩ := tyOk_of (z := (.pointer none)) (by kernel_rfl) (by kernel_rfl) (by kernel_rfl) rfl rfl
theorem tyOk68 : TyOk Tryz.prog 68 ⟨(.struct [(0, 3), (1, 9), (2, 3), (3, 3)]), 4, 40, [(.int .i64 0), (.str []), (.int .i64 0), (.int .i64 0)]⟩ := tyOk_of (z := (.agg #[(.int .i64 0), (.string ⟨#[]⟩), (.int .i64 0), (.int .i64 0)])) (by kernel_rfl) (by kernel_rfl) (by kernel_rfl) rfl rfl
theorem tyOk69 : TyOk Tryz.prog 69 ⟨(.struct [(0, 3), (1, 9), (2, 3), (3, 3)]), 4, 40, [(.int .i64 0), (.str []), (.int .i64 0), (.int .i64 0)]⟩ := tyOk_of (z := (.agg #[(.int .i64 0), (.string ⟨#[]⟩), (.int .i64 0), (.int .i64 0)])) (by kernel_rfl) (by kernel_rfl) (by kernel_rfl) rfl rfl
theorem tyOk70 : TyOk Tryz.prog 70 ⟨(.struct [(0, 9), (1, 3), (2, 3), (3, 69), (7, 32)]), 8, 80, [(.str []), (.int .i64 0), (.int .i64 0), (.int .i64 0), (.str []), (.int .i64 0), (.int .i64 0), (.int .i64 0)]⟩ := tyOk_of (z := (.agg #[(.string ⟨#[]⟩), (.int .i64 0), (.int .i64 0), (.int .i64 0), (.string ⟨#[]⟩), (.int .i64 0), (.int .i64 0), (.int .i64 0)])) (by kernel_rfl) (by kernel_rfl) (by kernel_rfl) rfl rfl
theorem tyOk71 : TyOk Tryz.prog 71 ⟨(.struct [(0, 9), (1, 3), (2, 3), (3, 69), (7, 32)]), 8, 80, [(.str []), (.int .i64 0), (.int .i64 0), (.int .i64 0), (.str []), (.int .i64 0), (.int .i64 0), (.int .i64 0)]⟩ := tyOk_of (z := (.agg #[(.string ⟨#[]⟩), (.int .i64 0), (.int .i64 0), (.int .i64 0), (.string ⟨#[]⟩), (.int .i64 0), (.int .i64 0), (.int .i64 0)])) (by kernel_rfl) (by kernel_rfl) (by kernel_rfl) rfl rfl
theorem tyOk72 : TyOk Tryz.prog 72 ⟨.func, 1, 8, [.nilf]⟩ := tyOk_of (z := .nilFunc) (by kernel_rfl) (by kernel_rfl) (by kernel_rfl) rfl rfl
theorem tyOk73 : TyOk Tryz.prog 73 ⟨(.struct [(0, 38), (1, 3)]), 2, 32, [(.list [] .nil), (.int .i64 0)]⟩ := tyOk_of (z := (.agg #[(.slice none 0 0), (.int .i64 0)])) (by kernel_rfl) (by kernel_rfl) (by kernel_rfl) rfl rfl
theorem tyOk74 : TyOk Tryz.prog 74 ⟨(.struct [(0, 38), (1, 3)]), 2, 32, [(.list [] .nil), (.int .i64 0)]⟩ := tyOk_of (z := (.agg #[(.slice none 0 0), (.int .i64 0)])) (by kernel_rfl) (by kernel_rfl) (by kernel_rfl) rfl rfl
theorem tyOk75 : TyOk Tryz.prog 75 ⟨.func, 1, 8, [.nilf]⟩ := tyOk_of (z := .nilFunc) (by kernel_rfl) (by kernel_rfl) (by kernel_rfl) rfl rfl
theorem tyOk76 : TyOk Tryz.prog 76 ⟨.func, 1, 8, [.nilf]⟩ := tyOk_of (z := .nilFunc) (by kernel_rfl) (by kernel_rfl) (by kernel_rfl) rfl rfl
theorem tyOk77 : TyOk Tryz.prog 77 ⟨.func, 1, 8, [.nilf]⟩ := tyOk_of (z := .nilFunc) (by kernel_rfl) (by kernel_rfl) (by kernel_rfl) rfl rfl
theorem tyOk78 : TyOk Tryz.prog 78 ⟨.func, 1, 8, [.nilf]⟩ := tyOk_of (z := .nilFunc) (by kernel_rfl) (by kernel_rfl) (by kernel_rfl) rfl rfl
theorem tyOk79 : TyOk Tryz.prog 79 ⟨.func, 1, 8, [.nilf]⟩ := tyOk_of (z := .nilFunc) (by kernel_rfl) (by kernel_rfl) (by kernel_rfl) rfl rfl
theorem tyOk80 : TyOk Tryz.prog 80 ⟨.func, 1, 8, [.nilf]⟩ := tyOk_of (z := .nilFunc) (by kernel_rfl) (by kernel_rfl) (by kernel_rfl) rfl rfl
theorem tyOk81 : TyOk Tryz.prog 81 ⟨.func, 1, 8, [.nilf]⟩ := tyOk_of (z := .nilFunc) (by kernel_rfl) (by kernel_rfl) (by kernel_rfl) rfl rfl
theorem tyOk82 : TyOk Tryz.prog 82 ⟨.func, 1, 8, [.nilf]⟩ := tyOk_of (z := .nilFunc) (by kernel_rfl) (by kernel_rfl) (by kernel_rfl) rfl rfl
theorem tyOk83 : TyOk Tryz.prog 83 ⟨.func, 1, 8, [.nilf]⟩ := tyOk_of (z := .nilFunc) (by kernel_rfl) (by kernel_rfl) (by kernel_rfl) rfl rfl
theorem tyOk84 : TyOk Tryz.prog 84 ⟨(.slice 86), 1, 24, [(.list [] .nil)]⟩ := tyOk_of (z := (.slice none 0 0)) (by kernel_rfl) (by kernel_rfl) (by kernel_rfl) rfl rfl
theorem tyOk85 : TyOk Tryz.prog 85 ⟨(.struct [(0, 59), (6, 84)]), 7, 104, [(.int .i64 0), (.str []), (.str []), (.int .i64 0), (.list [] .nil), (.int .i64 0), (.list [] .nil)]⟩ := tyOk_of (z := (.agg #[(.int .i64 0), (.string ⟨#[]⟩), (.string ⟨#[]⟩), (.int .i64 0), (.slice none 0 0), (.int .i64 0), (.slice none 0 0)])) (by kernel_rfl) (by kernel_rfl) (by kernel_rfl) rfl rfl
theorem tyOk86 : TyOk Tryz.prog 86 ⟨(.struct [(0, 59), (6, 84)]), 7, 104, [(.int .i64 0), (.str []), (.str []), (.int .i64 0), (.list [] .nil), (.int .i64 0), (.list [] .nil)]⟩ := tyOk_of (z := (.agg #[(.int .i64 0), (.string ⟨#[]⟩), (.string ⟨#[]⟩), (.int .i64 0), (.slice none 0 0), (.int .i64 0), (.slice none 0 0)])) (by kernel_rfl) (by kernel_rfl) (by kernel_rfl) rfl rfl
theorem tyOk87 : TyOk Tryz.prog 87 ⟨.func, 1, 8, [.nilf]⟩ := tyOk_of (z := .nilFunc) (by kernel_rfl) (by kernel_rfl) (by kernel_rfl) rfl rfl
theorem tyOk88 : TyOk Tryz.prog 88 ⟨.func, 1, 8, [.nilf]⟩ := tyOk_of (z := .nilFunc) (by kernel_rfl) (by kernel_rfl) (by kernel_rfl) rfl rfl
theorem tyOk89 : TyOk Tryz.prog 89 ⟨.func, 1, 8, [.nilf]⟩ := tyOk_of (z := .nilFunc) (by kernel_rfl) (by kernel_rfl) (by kernel_rfl) rfl rfl
theorem tyOk90 : TyOk Tryz.prog 90 ⟨.func, 1, 8, [.nilf]⟩ := tyOk_of (z := .nilFunc) (by kernel_rfl) (by kernel_rfl) (by kernel_rfl) rfl rfl
theorem tyOk91 : TyOk Tryz.prog 91 ⟨.func, 1, 8, [.nilf]⟩ := tyOk_of (z := .nilFunc) (by kernel_rfl) (by kernel_rfl) (by kernel_rfl) rfl rfl
theorem tyOk92 : TyOk Tryz.prog 92 ⟨.func, 1, 8, [.nilf]⟩ := tyOk_of (z := .nilFunc) (by kernel_rfl) (by kernel_rfl) (by kernel_rfl) rfl rfl
theorem tyOk93 : TyOk Tryz.prog 93 ⟨(.slice 136), 1, 24, [(.list [] .nil)]⟩ := tyOk_of (z := (.slice none 0 0)) (by kernel_rfl) (by kernel_rfl) (by kernel_rfl) rfl rfl
theorem tyOk94 : TyOk Tryz.prog 94 ⟨(.struct [(0, 3), (1, 3), (2, 48), (3, 93)]), 4, 64, [(.int .i64 0), (.int .i64 0), (.list [] .nil), (.list [] .nil)]⟩ := tyOk_of (z := (.agg #[(.int .i64 0), (.int .i64 0), (.slice none 0 0), (.slice none 0 0)])) (by kernel_rfl) (by kernel_rfl) (by kernel_rfl) rfl rfl
theorem tyOk95 : TyOk Tryz.prog 95 ⟨(.struct [(0, 3), (1, 3), (2, 48), (3, 93)]), 4, 64, [(.int .i64 0), (.int .i64 0), (.list [] .nil), (.list [] .nil)]⟩ := tyOk_of (z := (.agg #[(.int .i64 0), (.int .i64 0), (.slice none 0 0), (.slice none 0 0)])) (by kernel_rfl) (by kernel_rfl) (by kernel_rfl) rfl rfl
theorem tyOk97 : TyOk Tryz.prog 97 ⟨.func, 1, 8, [.nilf]⟩ := tyOk_of (z := .nilFunc) (by kernel_rfl) (by kernel_rfl) (by kernel_rfl) rfl rfl
theorem tyOk98 : TyOk Tryz.prog 98 ⟨(.struct [(0, 31), (5, 95)]), 9, 160, [(.str []), (.int .i64 0), (.list [] .nil), (.list [] .nil), (.list [] .nil), (.int .i64 0), (.int .i64 0), (.list [] .nil), (.list [] .nil)]⟩ := tyOk_of (z := (.agg #[(.string ⟨#[]⟩), (.int .i64 0), (.slice none 0 0), (.slice none 0 0), (.slice none 0 0), (.int .i64 0), (.int .i64 0), (.slice none 0 0), (.slice none 0 0)])) (by kernel_rfl) (by kernel_rfl) (by kernel_rfl) rfl rfl
theorem tyOk99 : TyOk Tryz.prog 99 ⟨(.struct [(0, 31), (5, 95)]), 9, 160, [(.str []), (.int .i64 0), (.list [] .nil), (.list [] .nil), (.list [] .nil), (.int .i64 0), (.int .i64 0), (.list [] .nil), (.list [] .nil)]⟩ := tyOk_of (z := (.agg #[(.string ⟨#[]⟩), (.int .i64 0), (.slice none 0 0), (.slice none 0 0), (.slice none 0 0), (.int .i64 0), (.int .i64 0), (.slice none 0 0), (.slice none 0 0)])) (by kernel_rfl) (by kernel_rfl) (by kernel_rfl) rfl rfl
theorem tyOk101 : TyOk Tryz.prog 101 ⟨.func, 1, 8, [.nilf]⟩ := tyOk_of (z := .nilFunc) (by kernel_rfl) (by kernel_rfl) (by kernel_rfl) rfl rfl
theorem tyOk102 : TyOk Tryz.prog 102 ⟨.func, 1, 8, [.nilf]⟩ := tyOk_of (z := .nilFunc) (by kernel_rfl) (by kernel_rfl) (by kernel_rfl) rfl rfl
theorem tyOk103 : TyOk Tryz.prog 103 ⟨.func, 1, 8, [.nilf]⟩ := tyOk_of (z := .nilFunc) (by kernel_rfl) (by kernel_rfl) (by kernel_rfl) rfl rfl
theorem tyOk105 : TyOk Tryz.prog 105 ⟨.func, 1, 8, [.nilf]⟩ := tyOk_of (z := .nilFunc) (by kernel_rfl) (by kernel_rfl) (by kernel_rfl) rfl rfl
theorem tyOk106 : TyOk Tryz.prog 106 ⟨.func, 1, 8, [.nilf]⟩ := tyOk_of (z := .nilFunc) (by kernel_rfl) (by kernel_rfl) (by kernel_rfl) rfl rfl
theorem tyOk107 : TyOk Tryz.prog 107 ⟨.func, 1, 8, [.nilf]⟩ := tyOk_of (z := .nilFunc) (by kernel_rfl) (by kernel_rfl) (by kernel_rfl) rfl rfl
theorem tyOk108 : TyOk Tryz.prog 108 ⟨.func, 1, 8, [.nilf]⟩ := tyOk_of (z := .nilFunc) (by kernel_rfl) (by kernel_rfl) (by kernel_rfl) rfl rfl
theorem tyOk109 : TyOk Tryz.prog 109 ⟨.func, 1, 8, [.nilf]⟩ := tyOk_of (z := .nilFunc) (by kernel_rfl) (by kernel_rfl) (by kernel_rfl) rfl rfl
theorem tyOk110 : TyOk Tryz.prog 110 ⟨.func, 1, 8, [.nilf]⟩ := tyOk_of (z := .nilFunc) (by kernel_rfl) (by kernel_rfl) (by kernel_rfl) rfl rfl
theorem tyOk111 : TyOk Tryz.prog 111 ⟨(.map 9 4), 1, 8, [.nilm]⟩ := tyOk_of (z := (.map none)) (by kernel_rfl) (by kernel_rfl) (by kernel_rfl) rfl rfl
theorem tyOk112 : TyOk Tryz.prog 112 ⟨.func, 1, 8, [.nilf]⟩ := tyOk_of (z := .nilFunc) (by kernel_rfl) (by kernel_rfl) (by kernel_rfl) rfl rfl
theorem tyOk113 : TyOk Tryz.prog 113 ⟨.func, 1, 8, [.nilf]⟩ := tyOk_of (z := .nilFunc) (by kernel_rfl) (by kernel_rfl) (by kernel_rfl) rfl rfl
theorem tyOk114 : TyOk Tryz.prog 114 ⟨.func, 1, 8, [.nilf]⟩ := tyOk_of (z := .nilFunc) (by kernel_rfl) (by kernel_rfl) (by kernel_rfl) rfl rfl
theorem tyOk115 : TyOk Tryz.prog 115 ⟨.func, 1, 8, [.nilf]⟩ := tyOk_of (z := .nilFunc) (by kernel_rfl) (by kernel_rfl) (by kernel_rfl) rfl rfl
theorem tyOk116 : TyOk Tryz.prog 116 ⟨.func, 1, 8, [.nilf]⟩ := tyOk_of (z := .nilFunc) (by kernel_rfl) (by kernel_rfl) (by kernel_rfl) rfl rfl
theorem tyOk117 : TyOk Tryz.prog 117 ⟨(.ptr 121), 1, 8, [.nilp]⟩ := tyOk_of (z := (.pointer none)) (by kernel_rfl) (by kernel_rfl) (by kernel_rfl) rfl rfl
theorem tyOk119 : TyOk Tryz.prog 119 ⟨.func, 1, 8, [.nilf]⟩ := tyOk_of (z := .nilFunc) (by kernel_rfl) (by kernel_rfl) (by kernel_rfl) rfl rfl
theorem tyOk120 : TyOk Tryz.prog 120 ⟨(.struct [(0, 31), (5, 48), (6, 95)]), 10, 184, [(.str []), (.int .i64 0), (.list [] .nil), (.list [] .nil), (.list [] .nil), (.list [] .nil), (.int .i64 0), (.int .i64 0), (.list [] .nil), (.list [] .nil)]⟩ := tyOk_of (z := (.agg #[(.string ⟨#[]⟩), (.int .i64 0), (.slice none 0 0), (.slice none 0 0), (.slice none 0 0), (.slice none 0 0), (.int .i64 0), (.int .i64 0), (.slice none 0 0), (.slice none 0 0)])) (by kernel_rfl) (by kernel_rfl) (by kernel_rfl) rfl rfl
theorem tyOk121 : TyOk Tryz.prog 121 ⟨(.struct [(0, 31), (5, 48), (6, 95)]), 10, 184, [(.str []), (.int .i64 0), (.list [] .nil), (.list [] .nil), (.list [] .nil), (.list [] .nil), (.int .i64 0), (.int .i64 0), (.list [] .nil), (.list [] .nil)]⟩ := tyOk_of (z := (.agg #[(.string ⟨#[]⟩), (.int .i64 0), (.slice none 0 0), (.slice none 0 0), (.slice none 0 0), (.slice none 0 0), (.int .i64 0), (.int .i64 0), (.slice none 0 0), (.slice none 0 0)])) (by kernel_rfl) (by kernel_rfl) (by kernel_rfl) rfl rfl
theorem tyOk123 : TyOk Tryz.prog 123 ⟨.func, 1, 8, [.nilf]⟩ := tyOk_of (z := .nilFunc) (by kernel_rfl) (by kernel_rfl) (by kernel_rfl) rfl rfl
theorem tyOk124 : TyOk Tryz.prog 124 ⟨.func, 1, 8, [.nilf]⟩ := tyOk_of (z := .nilFunc) (by kernel_rfl) (by kernel_rfl) (by kernel_rfl) rfl rfl
theorem tyOk125 : TyOk Tryz.prog 125 ⟨.func, 1, 8, [.nilf]⟩ := tyOk_of (z := .nilFunc) (by kernel_rfl) (by kernel_rfl) (by kernel_rfl) rfl rfl
theorem tyOk126 : TyOk Tryz.prog 126 ⟨.func, 1, 8, [.nilf]⟩ := tyOk_of (z := .nilFunc) (by kernel_rfl) (by kernel_rfl) (by kernel_rfl) rfl rfl
theorem tyOk127 : TyOk Tryz.prog 127 ⟨.func, 1, 8, [.nilf]⟩ := tyOk_of (z := .nilFunc) (by kernel_rfl) (by kernel_rfl) (by kernel_rfl) rfl rfl
theorem tyOk128 : TyOk Tryz.prog 128 ⟨.func, 1, 8, [.nilf]⟩ := tyOk_of (z := .nilFunc) (by kernel_rfl) (by kernel_rfl) (by kernel_rfl) rfl rfl
theorem tyOk129 : TyOk Tryz.prog 129 ⟨.func, 1, 8, [.nilf]⟩ := tyOk_of (z := .nilFunc) (by kernel_rfl) (by kernel_rfl) (by kernel_rfl) rfl rfl
theorem tyOk130 : TyOk Tryz.prog 130 ⟨.func, 1, 8, [.nilf]⟩ := tyOk_of (z := .nilFunc) (by kernel_rfl) (by kernel_rfl) (by kernel_rfl) rfl rfl
theorem tyOk131 : TyOk Tryz.prog 131 ⟨(.slice 146), 1, 24, [(.list [] .nil)]⟩ := tyOk_of (z := (.slice none 0 0)) (by kernel_rfl) (by kernel_rfl) (by kernel_rfl) rfl rfl
theorem tyOk132 : TyOk Tryz.prog 132 ⟨.func, 1, 8, [.nilf]⟩ := tyOk_of (z := .nilFunc) (by kernel_rfl) (by kernel_rfl) (by kernel_rfl) rfl rfl
theorem tyOk133 : TyOk Tryz.prog 133 ⟨.func, 1, 8, [.nilf]⟩ := tyOk_of (z := .nilFunc) (by kernel_rfl) (by kernel_rfl) (by kernel_rfl) rfl rfl
theorem tyOk134 : TyOk Tryz.prog 134 ⟨.func, 1, 8, [.nilf]⟩ := tyOk_of (z := .nilFunc) (by kernel_rfl) (by kernel_rfl) (by kernel_rfl) rfl rfl
theorem tyOk135 : TyOk Tryz.prog 135 ⟨(.struct [(0, 3), (1, 131)]), 2, 32, [(.int .i64 0), (.list [] .nil)]⟩ := tyOk_of (z := (.agg #[(.int .i64 0), (.slice none 0 0)])) (by kernel_rfl) (by kernel_rfl) (by kernel_rfl) rfl rfl
theorem tyOk136 : TyOk Tryz.prog 136 ⟨(.struct [(0, 3), (1, 131)]), 2, 32, [(.int .i64 0), (.list [] .nil)]⟩ := tyOk_of (z := (.agg #[(.int .i64 0), (.slice none 0 0)])) (by kernel_rfl) (by kernel_rfl) (by kernel_rfl) rfl rfl
theorem tyOk137 : TyOk Tryz.prog 137 ⟨.func, 1, 8, [.nilf]⟩ := tyOk_of (z := .nilFunc) (by kernel_rfl) (by kernel_rfl) (by kernel_rfl) rfl rfl
theorem tyOk138 : TyOk Tryz.prog 138 ⟨.func, 1, 8, [.nilf]⟩ := tyOk_of (z := .nilFunc) (by kernel_rfl) (by kernel_rfl) (by kernel_rfl) rfl rfl
theorem tyOk139 : TyOk Tryz.prog 139 ⟨(.array 10 5), 10, 10, [(.int .u8 0), (.int .u8 0), (.int .u8 0), (.int .u8 0), (.int .u8 0), (.int .u8 0), (.int .u8 0), (.int .u8 0), (.int .u8 0), (.int .u8 0)]⟩ := tyOk_of (z := (.agg #[(.int .u8 0), (.int .u8 0), (.int .u8 0), (.int .u8 0), (.int .u8 0), (.int .u8 0), (.int .u8 0), (.int .u8 0), (.int .u8 0), (.int .u8 0)])) (by kernel_rfl) (by kernel_rfl) (by kernel_rfl) rfl rfl
theorem tyOk140 : TyOk Tryz.prog 140 ⟨(.slice 5), 1, 24, [(.list [] .nil)]⟩ := tyOk_of (z := (.slice none 0 0)) (by kernel_rfl) (by kernel_rfl) (by kernel_rfl) rfl rfl
theorem tyOk141 : TyOk Tryz.prog 141 ⟨(.array 4 9), 4, 64, [(.str []), (.str []), (.str []), (.str [])]⟩ := tyOk_of (z := (.agg #[(.string ⟨#[]⟩), (.string ⟨#[]⟩), (.string ⟨#[]⟩), (.string ⟨#[]⟩)])) (by kernel_rfl) (by kernel_rfl) (by kernel_rfl) rfl rfl
theorem tyOk142 : TyOk Tryz.prog 142 ⟨.func, 1, 8, [.nilf]⟩ := tyOk_of (z := .nilFunc) (by kernel_rfl) (by kernel_rfl) (by kernel_rfl) rfl rfl
theorem tyOk143 : TyOk Tryz.prog 143 ⟨.func, 1, 8, [.nilf]⟩ := tyOk_of (z := .nilFunc) (by kernel_rfl) (by kernel_rfl) (by kernel_rfl) rfl rfl
theorem tyOk144 : TyOk Tryz.prog 144 ⟨.func, 1, 8, [.nilf]⟩ := tyOk_of (z := .nilFunc) (by kernel_rfl) (by kernel_rfl) (by kernel_rfl) rfl rfl
theorem tyOk145 : TyOk Tryz.prog 145 ⟨(.struct [(0, 4), (1, 3)]), 2, 16, [(.bool false), (.int .i64 0)]⟩ := tyOk_of (z := (.agg #[(.bool false), (.int .i64 0)])) (by kernel_rfl) (by kernel_rfl) (by kernel_rfl) rfl rfl
theorem tyOk146 : TyOk Tryz.prog 146 ⟨(.struct [(0, 4), (1, 3)]), 2, 16, [(.bool false), (.int .i64 0)]⟩ := tyOk_of (z := (.agg #[(.bool false), (.int .i64 0)])) (by kernel_rfl) (by kernel_rfl) (by kernel_rfl) rfl rfl
theorem tyOk147 : TyOk Tryz.prog 147 ⟨.func, 1, 8, [.nilf]⟩ := tyOk_of (z := .nilFunc) (by kernel_rfl) (by kernel_rfl) (by kernel_rfl) rfl rfl
theorem tyOk148 : TyOk Tryz.prog 148 ⟨.func, 1, 8, [.nilf]⟩ := tyOk_of (z := .nilFunc) (by kernel_rfl) (by kernel_rfl) (by kernel_rfl) rfl rfl
theorem tyOk149 : TyOk Tryz.prog 149 ⟨.func, 1, 8, [.nilf]⟩ := tyOk_of (z := .nilFunc) (by kernel_rfl) (by kernel_rfl) (by kernel_rfl) rfl rfl
theorem tyOk150 : TyOk Tryz.prog 150 ⟨.func, 1, 8, [.nilf]⟩ := tyOk_of (z := .nilFunc) (by kernel_rfl) (by kernel_rfl) (by kernel_rfl) rfl rfl
theorem tyOk151 : TyOk Tryz.prog 151 ⟨.func, 1, 8, [.nilf]⟩ := tyOk_of (z := .nilFunc) (by kernel_rfl) (by kernel_rfl) (by kernel_rfl) rfl rfl
theorem tyOk152 : TyOk Tryz.prog 152 ⟨.func, 1, 8, [.nilf]⟩ := tyOk_of (z := .nilFunc) (by kernel_rfl) (by kernel_rfl) (by kernel_rfl) rfl rfl
theorem tyOk153 : TyOk Tryz.prog 153 ⟨.func, 1, 8, [.nilf]⟩ := tyOk_of (z := .nilFunc) (by kernel_rfl) (by kernel_rfl) (by kernel_rfl) rfl rfl
theorem tyOk154 : TyOk Tryz.prog 154 ⟨.func, 1, 8, [.nilf]⟩ := tyOk_of (z := .nilFunc) (by kernel_rfl) (by kernel_rfl) (by kernel_rfl) rfl rfl
theorem tyOk155 : TyOk Tryz.prog 155 ⟨(.struct [(0, 31)]), 5, 96, [(.str []), (.int .i64 0), (.list [] .nil), (.list [] .nil), (.list [] .nil)]⟩ := tyOk_of (z := (.agg #[(.string ⟨#[]⟩), (.int .i64 0), (.slice none 0 0), (.slice none 0 0), (.slice none 0 0)])) (by kernel_rfl) (by kernel_rfl) (by kernel_rfl) rfl rfl
theorem tyOk156 : TyOk Tryz.prog 156 ⟨(.struct [(0, 31)]), 5, 96, [(.str []), (.int .i64 0), (.list [] .nil), (.list [] .nil), (.list [] .nil)]⟩ := tyOk_of (z := (.agg #[(.string ⟨#[]⟩), (.int .i64 0), (.slice none 0 0), (.slice none 0 0), (.slice none 0 0)])) (by kernel_rfl) (by kernel_rfl) (by kernel_rfl) rfl rfl
theorem tyOk157 : TyOk Tryz.prog 157 ⟨.func, 1, 8, [.nilf]⟩ := tyOk_of (z := .nilFunc) (by kernel_rfl) (by kernel_rfl) (by kernel_rfl) rfl rfl
theorem tyOk158 : TyOk Tryz.prog 158 ⟨.func, 1, 8, [.nilf]⟩ := tyOk_of (z := .nilFunc) (by kernel_rfl) (by kernel_rfl) (by kernel_rfl) rfl rfl
theorem tyOk159 : TyOk Tryz.prog 159 ⟨(.ptr 161), 1, 8, [.nilp]⟩ := tyOk_of (z := (.pointer none)) (by kernel_rfl) (by kernel_rfl) (by kernel_rfl) rfl rfl
theorem tyOk160 : TyOk Tryz.prog 160 ⟨(.struct [(0, 159), (1, 140)]), 2, 32, [.nilp, (.list [] .nil)]⟩ := tyOk_of (z := (.agg #[(.pointer none), (.slice none 0 0)])) (by kernel_rfl) (by kernel_rfl) (by kernel_rfl) rfl rfl
theorem tyOk161 : TyOk Tryz.prog 161 ⟨(.struct [(0, 159), (1, 140)]), 2, 32, [.nilp, (.list [] .nil)]⟩ := tyOk_of (z := (.agg #[(.pointer none), (.slice none 0 0)])) (by kernel_rfl) (by kernel_rfl) (by kernel_rfl) rfl rfl
theorem tyOk165 : TyOk Tryz.prog 165 ⟨.func, 1, 8, [.nilf]⟩ := tyOk_of (z := .nilFunc) (by kernel_rfl) (by kernel_rfl) (by kernel_rfl) rfl rfl
theorem tyOk166 : TyOk Tryz.prog 166 ⟨.func, 1, 8, [.nilf]⟩ := tyOk_of (z := .nilFunc) (by kernel_rfl) (by kernel_rfl) (by kernel_rfl) rfl rfl
theorem tyOk167 : TyOk Tryz.prog 167 ⟨(.ptr 5), 1, 8, [.nilp]⟩ := tyOk_of (z := (.pointer none)) (by kernel_rfl) (by kernel_rfl) (by kernel_rfl) rfl rfl
theorem tyOk169 : TyOk Tryz.prog 169 ⟨.func, 1, 8, [.nilf]⟩ := tyOk_of (z := .nilFunc) (by kernel_rfl) (by kernel_rfl) (by kernel_rfl) rfl rfl
theorem tyOk170 : TyOk Tryz.prog 170 ⟨.func, 1, 8, [.nilf]⟩ := tyOk_of (z := .nilFunc) (by kernel_rfl) (by kernel_rfl) (by kernel_rfl) rfl rfl
theorem tyOk171 : TyOk Tryz.prog 171 ⟨(.struct [(0, 17), (1, 17), (2, 17), (3, 9)]), 4, 40, [.nilp, .nilp, .nilp, (.str [])]⟩ := tyOk_of (z := (.agg #[(.pointer none), (.pointer none), (.pointer none), (.string ⟨#[]⟩)])) (by kernel_rfl) (by kernel_rfl) (by kernel_rfl) rfl rfl
theorem tyOk172 : TyOk Tryz.prog 172 ⟨(.struct [(0, 17), (1, 17), (2, 17), (3, 9)]), 4, 40, [.nilp, .nilp, .nilp, (.str [])]⟩ := tyOk_of (z := (.agg #[(.pointer none), (.pointer none), (.pointer none), (.string ⟨#[]⟩)])) (by kernel_rfl) (by kernel_rfl) (by kernel_rfl) rfl rfl
theorem tyOk173 : TyOk Tryz.prog 173 ⟨(.array 0 16), 0, 0, []⟩ := tyOk_of (z := (.agg #[])) (by kernel_rfl) (by kernel_rfl) (by kernel_rfl) rfl rfl
theorem tyOk174 : TyOk Tryz.prog 174 ⟨(.struct [(0, 173)]), 0, 0, []⟩ := tyOk_of (z := (.agg #[])) (by kernel_rfl) (by kernel_rfl) (by kernel_rfl) rfl rfl
theorem tyOk175 : TyOk Tryz.prog 175 ⟨(.struct [(0, 173)]), 0, 0, []⟩ := tyOk_of (z := (.agg #[])) (by kernel_rfl) (by kernel_rfl) (by kernel_rfl) rfl rfl
theorem tyOk176 : TyOk Tryz.prog 176 ⟨.func, 1, 8, [.nilf]⟩ := tyOk_of (z := .nilFunc) (by kernel_rfl) (by kernel_rfl) (by kernel_rfl) rfl rfl
theorem tyOk177 : TyOk Tryz.prog 177 ⟨(.scal .u32), 1, 4, [(.int .u32 0)]⟩ := tyOk_of (z := (.int .u32 0)) (by kernel_rfl) (by kernel_rfl) (by kernel_rfl) rfl rfl
theorem tyOk178 : TyOk Tryz.prog 178 ⟨(.scal .u8), 1, 1, [(.int .u8 0)]⟩ := tyOk_of (z := (.int .u8 0)) (by kernel_rfl) (by kernel_rfl) (by kernel_rfl) rfl rfl
theorem tyOk179 : TyOk Tryz.prog 179 ⟨(.scal .u8), 1, 1, [(.int .u8 0)]⟩ := tyOk_of (z := (.int .u8 0)) (by kernel_rfl) (by kernel_rfl) (by kernel_rfl) rfl rfl
theorem tyOk180 : TyOk Tryz.prog 180 ⟨.func, 1, 8, [.nilf]⟩ := tyOk_of (z := .nilFunc) (by kernel_rfl) (by kernel_rfl) (by kernel_rfl) rfl rfl
theorem tyOk181 : TyOk Tryz.prog 181 ⟨(.scal .i32), 1, 4, [(.int .i32 0)]⟩ := tyOk_of (z := (.int .i32 0)) (by kernel_rfl) (by kernel_rfl) (by kernel_rfl) rfl rfl
theorem tyOk182 : TyOk Tryz.prog 182 ⟨(.scal .i32), 1, 4, [(.int .i32 0)]⟩ := tyOk_of (z := (.int .i32 0)) (by kernel_rfl) (by kernel_rfl) (by kernel_rfl) rfl rfl
theorem tyOk183 : TyOk Tryz.prog 183 ⟨(.struct [(0, 12), (1, 12), (2, 177), (3, 178), (4, 5), (5, 5), (6, 179), (7, 180), (8, 167), (9, 181), (10, 182)]), 11, 48, [(.int .u64 0), (.int .u64 0), (.int .u32 0), (.int .u8 0), (.int .u8 0), (.int .u8 0), (.int .u8 0), .nilf, .nilp, (.int .i32 0), (.int .i32 0)]⟩ := tyOk_of (z := (.agg #[(.int .u64 0), (.int .u64 0), (.int .u32 0), (.int .u8 0), (.int .u8 0), (.int .u8 0), (.int .u8 0), .nilFunc, (.pointer none), (.int .i32 0), (.int .i32 0)])) (by kernel_rfl) (by kernel_rfl) (by kernel_rfl) rfl rfl
theorem tyOk184 : TyOk Tryz.prog 184 ⟨(.struct [(0, 12), (1, 12), (2, 177), (3, 178), (4, 5), (5, 5), (6, 179), (7, 180), (8, 167), (9, 181), (10, 182)]), 11, 48, [(.int .u64 0), (.int .u64 0), (.int .u32 0), (.int .u8 0), (.int .u8 0), (.int .u8 0), (.int .u8 0), .nilf, .nilp, (.int .i32 0), (.int .i32 0)]⟩ := tyOk_of (z := (.agg #[(.int .u64 0), (.int .u64 0), (.int .u32 0), (.int .u8 0), (.int .u8 0), (.int .u8 0), (.int .u8 0), .nilFunc, (.pointer none), (.int .i32 0), (.int .i32 0)])) (by kernel_rfl) (by kernel_rfl) (by kernel_rfl) rfl rfl

theorem tyD_ok : ∀ t d, tyD t = some d → TyOk Tryz.prog t d := by
  intro t d h
  unfold tyD at h
  split at h
  · simp only [Option.some.injEq] at h; subst h; exact tyOk1
  · simp only [Option.some.injEq] at h; subst h; exact tyOk2
  · simp only [Option.some.injEq] at h; subst h; exact tyOk3
  · simp only [Option.some.injEq] at h; subst h; exact tyOk4
  · simp only [Option.some.injEq] at h; subst h; exact tyOk5
  · simp only [Option.some.injEq] at h; subst h; exact tyOk6
  · simp only [Option.some.injEq] at h; subst h; exact tyOk7
  · simp only [Option.some.injEq] at h; subst h; exact tyOk8
  · simp only [Option.some.injEq] at h; subst h; exact tyOk9
  · simp only [Option.some.injEq] at h; subst h; exact tyOk10
  · simp only [Option.some.injEq] at h; subst h; exact tyOk11
  · simp only [Option.some.injEq] at h; subst h; exact tyOk12
  · simp only [Option.some.injEq] at h; subst h; exact tyOk13
  · simp only [Option.some.injEq] at h; subst h; exact tyOk14
  · simp only [Option.some.injEq] at h; subst h; exact tyOk15
  · simp only [Option.some.injEq] at h; subst h; exact tyOk16
  · simp only [Option.some.injEq] at h; subst h; exact tyOk17
  · simp only [Option.some.injEq] at h; subst h; exact tyOk18
  · simp only [Option.some.injEq] at h; subst h; exact tyOk19
  · simp only [Option.some.injEq] at h; subst h; exact tyOk21
  · simp only [Option.some.injEq] at h; subst h; exact tyOk22
  · simp only [Option.some.injEq] at h; subst h; exact tyOk23
  · simp only [Option.some.injEq] at h; subst h; exact tyOk24
  · simp only [Option.some.injEq] at h; subst h; exact tyOk25
  · simp only [Option.some.injEq] at h; subst h; exact tyOk26
  · simp only [Option.some.injEq] at h; subst h; exact tyOk27
  · simp only [Option.some.injEq] at h; subst h; exact tyOk28
  · simp only [Option.some.injEq] at h; subst h; exact tyOk29
  · simp only [Option.some.injEq] at h; subst h; exact tyOk30
  · simp only [Option.some.injEq] at h; subst h; exact tyOk31
  · simp only [Option.some.injEq] at h; subst h; exact tyOk32
  · simp only [Option.some.injEq] at h; subst h; exact tyOk34
  · simp only [Option.some.injEq] at h; subst h; exact tyOk35
  · simp only [Option.some.injEq] at h; subst h; exact tyOk37
  · simp only [Option.some.injEq] at h; subst h; exact tyOk38
  · simp only [Option.some.injEq] at h; subst h; exact tyOk40
  · simp only [Option.some.injEq] at h; subst h; exact tyOk41
  · simp only [Option.some.injEq] at h; subst h; exact tyOk42
  · simp only [Option.some.injEq] at h; subst h; exact tyOk43
  · simp only [Option.some.injEq] at h; subst h; exact tyOk44
  · simp only [Option.some.injEq] at h; subst h; exact tyOk45
  · simp only [Option.some.injEq] at h; subst h; exact tyOk46
  · simp only [Option.some.injEq] at h; subst h; exact tyOk47
  · simp only [Option.some.injEq] at h; subst h; exact tyOk48
  · simp only [Option.some.injEq] at h; subst h; exact tyOk49
  · simp only [Option.some.injEq] at h; subst h; exact tyOk50
  · simp only [Option.some.injEq] at h; subst h; exact tyOk51
  · simp only [Option.some.injEq] at h; subst h; exact tyOk52
  · simp only [Option.some.injEq] at h; subst h; exact tyOk53
  · simp only [Option.some.injEq] at h; subst h; exact tyOk54
  · simp only [Option.some.injEq] at h; subst h; exact tyOk55
  · simp only [Option.some.injEq] at h; subst h; exact tyOk56
  · simp only [Option.some.injEq] at h; subst h; exact tyOk57
  · simp only [Option.some.injEq] at h; subst h; exact tyOk58
  · simp only [Option.some.injEq] at h; subst h; exact tyOk59
  · simp only [Option.some.injEq] at h; subst h; exact tyOk61
  · simp only [Option.some.injEq] at h; subst h; exact tyOk63
  · simp only [Option.some.injEq] at h; subst h; exact tyOk64
  · simp only [Option.some.injEq] at h; subst h; exact tyOk66
  · simp only [Option.some.injEq] at h; subst h; exact tyOk67
  · simp only [Option.some.injEq] at h; subst h; exact tyOk68
  · simp only [Option.some.injEq] at h; subst h; exact tyOk69
  · simp only [Option.some.injEq] at h; subst h; exact tyOk70
  · simp only [Option.some.injEq] at h; subst h; exact tyOk71
  · simp only [Option.some.injEq] at h; subst h; exact tyOk72
  · simp only [Option.some.injEq] at h; subst h; exact tyOk73
  · simp only [Option.some.injEq] at h; subst h; exact tyOk74
  · simp only [Option.some.injEq] at h; subst h; exact tyOk75
  · simp only [Option.some.injEq] at h; subst h; exact tyOk76
  · simp only [Option.some.injEq] at h; subst h; exact tyOk77
  · simp only [Option.some.injEq] at h; subst h; exact tyOk78
  · simp only [Option.some.injEq] at h; subst h; exact tyOk79
  · simp only [Option.some.injEq] at h; subst h; exact tyOk80
  · simp only [Option.some.injEq] at h; subst h; exact tyOk81
  · simp only [Option.some.injEq] at h; subst h; exact tyOk82
  · simp only [Option.some.injEq] at h; subst h; exact tyOk83
  · simp only [Option.some.injEq] at h; subst h; exact tyOk84
  · simp only [Option.some.injEq] at h; subst h; exact tyOk85
  · simp only [Option.some.injEq] at h; subst h; exact tyOk86
  · simp only [Option.some.injEq] at h; subst h; exact tyOk87
  · simp only [Option.some.injEq] at h; subst h; exact tyOk88
  · simp only [Option.some.injEq] at h; subst h; exact tyOk89
  · simp only [Option.some.injEq] at h; subst h; exact tyOk90
  · simp only [Option.some.injEq] at h; subst h; exact tyOk91
  · simp only [Option.some.injEq] at h; subst h; exact tyOk92
  · simp only [Option.some.injEq] at h; subst h; exact tyOk93
  · simp only [Option.some.injEq] at h; subst h; exact tyOk94
  · simp only [Option.some.injEq] at h; subst h; exact tyOk95
  · simp only [Option.some.injEq] at h; subst h; exact tyOk97
  · simp only [Option.some.injEq] at h; subst h; exact tyOk98
  · simp only [Option.some.injEq] at h; subst h; exact tyOk99
  · simp only [Option.some.injEq] at h; subst h; exact tyOk101
  · simp only [Option.some.injEq] at h; subst h; exact tyOk102
  · simp only [Option.some.injEq] at h; subst h; exact tyOk103
  · simp only [Option.some.injEq] at h; subst h; exact tyOk105
  · simp only [Option.some.injEq] at h; subst h; exact tyOk106
  · simp only [Option.some.injEq] at h; subst h; exact tyOk107
  · simp only [Option.some.injEq] at h; subst h; exact tyOk108
  · simp only [Option.some.injEq] at h; subst h; exact tyOk109
  · simp only [Option.some.injEq] at h; subst h; exact tyOk110
  · simp only [Option.some.injEq] at h; subst h; exact tyOk111
  · simp only [Option.some.injEq] at h; subst h; exact tyOk112
  · simp only [Option.some.injEq] at h; subst h; exact tyOk113
  · simp only [Option.some.injEq] at h; subst h; exact tyOk114
  · simp only [Option.some.injEq] at h; subst h; exact tyOk115
  · simp only [Option.some.injEq] at h; subst h; exact tyOk116
  · simp only [Option.some.injEq] at h; subst h; exact tyOk117
  · simp only [Option.some.injEq] at h; subst h; exact tyOk119
  · simp only [Option.some.injEq] at h; subst h; exact tyOk120
  · simp only [Option.some.injEq] at h; subst h; exact tyOk121
  · simp only [Option.some.injEq] at h; subst h; exact tyOk123
  · simp only [Option.some.injEq] at h; subst h; exact tyOk124
  · simp only [Option.some.injEq] at h; subst h; exact tyOk125
  · simp only [Option.some.injEq] at h; subst h; exact tyOk126
  · simp only [Option.some.injEq] at h; subst h; exact tyOk127
  · simp only [Option.some.injEq] at h; subst h; exact tyOk128
  · simp only [Option.some.injEq] at h; subst h; exact tyOk129
  · simp only [Option.some.injEq] at h; subst h; exact tyOk130
  · simp only [Option.some.injEq] at h; subst h; exact tyOk131
  · simp only [Option.some.injEq] at h; subst h; exact tyOk132
  · simp only [Option.some.injEq] at h; subst h; exact tyOk133
  · simp only [Option.some.injEq] at h; subst h; exact tyOk134
  · simp only [Option.some.injEq] at h; subst h; exact tyOk135
  · simp only [Option.some.injEq] at h; subst h; exact tyOk136
  · simp only [Option.some.injEq] at h; subst h; exact tyOk137
  · simp only [Option.some.injEq] at h; subst h; exact tyOk138
  · simp only [Option.some.injEq] at h; subst h; exact tyOk139
  · simp only [Option.some.injEq] at h; subst h; exact tyOk140
  · simp only [Option.some.injEq] at h; subst h; exact tyOk141
  · simp only [Option.some.injEq] at h; subst h; exact tyOk142
  · simp only [Option.some.injEq] at h; subst h; exact tyOk143
  · simp only [Option.some.injEq] at h; subst h; exact tyOk144
  · simp only [Option.some.injEq] at h; subst h; exact tyOk145
  · simp only [Option.some.injEq] at h; subst h; exact tyOk146
  · simp only [Option.some.injEq] at h; subst h; exact tyOk147
  · simp only [Option.some.injEq] at h; subst h; exact tyOk148
  · simp only [Option.some.injEq] at h; subst h; exact tyOk149
  · simp only [Option.some.injEq] at h; subst h; exact tyOk150
  · simp only [Option.some.injEq] at h; subst h; exact tyOk151
  · simp only [Option.some.injEq] at h; subst h; exact tyOk152
  · simp only [Option.some.injEq] at h; subst h; exact tyOk153
  · simp only [Option.some.injEq] at h; subst h; exact tyOk154
  · simp only [Option.some.injEq] at h; subst h; exact tyOk155
  · simp only [Option.some.injEq] at h; subst h; exact tyOk156
  · simp only [Option.some.injEq] at h; subst h; exact tyOk157
  · simp only [Option.some.injEq] at h; subst h; exact tyOk158
  · simp only [Option.some.injEq] at h; subst h; exact tyOk159
  · simp only [Option.some.injEq] at h; subst h; exact tyOk160
  · simp only [Option.some.injEq] at h; subst h; exact tyOk161
  · simp only [Option.some.injEq] at h; subst h; exact tyOk165
  · simp only [Option.some.injEq] at h; subst h; exact tyOk166
  · simp only [Option.some.injEq] at h; subst h; exact tyOk167
  · simp only [Option.some.injEq] at h; subst h; exact tyOk169
  · simp only [Option.some.injEq] at h; subst h; exact tyOk170
  · simp only [Option.some.injEq] at h; subst h; exact tyOk171
  · simp only [Option.some.injEq] at h; subst h; exact tyOk172
  · simp only [Option.some.injEq] at h; subst h; exact tyOk173
  · simp only [Option.some.injEq] at h; subst h; exact tyOk174
  · simp only [Option.some.injEq] at h; subst h; exact tyOk175
  · simp only [Option.some.injEq] at h; subst h; exact tyOk176
  · simp only [Option.some.injEq] at h; subst h; exact tyOk177
  · simp only [Option.some.injEq] at h; subst h; exact tyOk178
  · simp only [Option.some.injEq] at h; subst h; exact tyOk179
  · simp only [Option.some.injEq] at h; subst h; exact tyOk180
  · simp only [Option.some.injEq] at h; subst h; exact tyOk181
  · simp only [Option.some.injEq] at h; subst h; exact tyOk182
  · simp only [Option.some.injEq] at h; subst h; exact tyOk183
  · simp only [Option.some.injEq] at h; subst h; exact tyOk184
  · simp at h
theorem tyD1 : tyD 1 = some ⟨.func, 1, 8, [.nilf]⟩ := rfl
theorem tyD2 : tyD 2 = some ⟨(.scal .i64), 1, 8, [(.int .i64 0)]⟩ := rfl
theorem tyD3 : tyD 3 = some ⟨(.scal .i64), 1, 8, [(.int .i64 0)]⟩ := rfl
theorem tyD4 : tyD 4 = some ⟨.bool, 1, 1, [(.bool false)]⟩ := rfl
theorem tyD5 : tyD 5 = some ⟨(.scal .u8), 1, 1, [(.int .u8 0)]⟩ := rfl
theorem tyD6 : tyD 6 = some ⟨(.scal .u8), 1, 1, [(.int .u8 0)]⟩ := rfl
theorem tyD7 : tyD 7 = some ⟨(.struct [(0, 2), (1, 3), (2, 4), (3, 6)]), 4, 24, [(.int .i64 0), (.int .i64 0), (.bool false), (.int .u8 0)]⟩ := rfl
theorem tyD8 : tyD 8 = some ⟨(.struct [(0, 2), (1, 3), (2, 4), (3, 6)]), 4, 24, [(.int .i64 0), (.int .i64 0), (.bool false), (.int .u8 0)]⟩ := rfl
theorem tyD9 : tyD 9 = some ⟨.str, 1, 16, [(.str [])]⟩ := rfl
theorem tyD10 : tyD 10 = some ⟨.str, 1, 16, [(.str [])]⟩ := rfl
theorem tyD11 : tyD 11 = some ⟨.str, 1, 16, [(.str [])]⟩ := rfl
theorem tyD12 : tyD 12 = some ⟨(.scal .u64), 1, 8, [(.int .u64 0)]⟩ := rfl
theorem tyD13 : tyD 13 = some ⟨(.struct [(0, 9), (1, 12)]), 2, 24, [(.str []), (.int .u64 0)]⟩ := rfl
theorem tyD14 : tyD 14 = some ⟨(.struct [(0, 9), (1, 12)]), 2, 24, [(.str []), (.int .u64 0)]⟩ := rfl
theorem tyD15 : tyD 15 = some ⟨(.ptr 172), 1, 8, [.nilp]⟩ := rfl
theorem tyD16 : tyD 16 = some ⟨(.ptr 175), 1, 8, [.nilp]⟩ := rfl
theorem tyD17 : tyD 17 = some ⟨(.ptr 184), 1, 8, [.nilp]⟩ := rfl
theorem tyD18 : tyD 18 = some ⟨(.struct [(0, 17)]), 1, 8, [.nilp]⟩ := rfl
theorem tyD19 : tyD 19 = some ⟨(.struct [(0, 17)]), 1, 8, [.nilp]⟩ := rfl
theorem tyD21 : tyD 21 = some ⟨(.scal .i32), 1, 4, [(.int .i32 0)]⟩ := rfl
theorem tyD22 : tyD 22 = some ⟨(.slice 24), 1, 24, [(.list [] .nil)]⟩ := rfl
theorem tyD23 : tyD 23 = some ⟨(.struct [(0, 3), (1, 3), (2, 3)]), 3, 24, [(.int .i64 0), (.int .i64 0), (.int .i64 0)]⟩ := rfl
theorem tyD24 : tyD 24 = some ⟨(.struct [(0, 3), (1, 3), (2, 3)]), 3, 24, [(.int .i64 0), (.int .i64 0), (.int .i64 0)]⟩ := rfl
theorem tyD25 : tyD 25 = some ⟨.func, 1, 8, [.nilf]⟩ := rfl
theorem tyD26 : tyD 26 = some ⟨.func, 1, 8, [.nilf]⟩ := rfl
theorem tyD27 : tyD 27 = some ⟨(.slice 9), 1, 24, [(.list [] .nil)]⟩ := rfl
theorem tyD28 : tyD 28 = some ⟨(.slice 56), 1, 24, [(.list [] .nil)]⟩ := rfl
theorem tyD29 : tyD 29 = some ⟨(.slice 59), 1, 24, [(.list [] .nil)]⟩ := rfl
theorem tyD30 : tyD 30 = some ⟨(.struct [(0, 9), (1, 3), (2, 27), (3, 28), (4, 29)]), 5, 96, [(.str []), (.int .i64 0), (.list [] .nil), (.list [] .nil), (.list [] .nil)]⟩ := rfl
theorem tyD31 : tyD 31 = some ⟨(.struct [(0, 9), (1, 3), (2, 27), (3, 28), (4, 29)]), 5, 96, [(.str []), (.int .i64 0), (.list [] .nil), (.list [] .nil), (.list [] .nil)]⟩ := rfl
theorem tyD32 : tyD 32 = some ⟨(.scal .i64), 1, 8, [(.int .i64 0)]⟩ := rfl
theorem tyD34 : tyD 34 = some ⟨.func, 1, 8, [.nilf]⟩ := rfl
theorem tyD35 : tyD 35 = some ⟨.func, 1, 8, [.nilf]⟩ := rfl
theorem tyD37 : tyD 37 = some ⟨.func, 1, 8, [.nilf]⟩ := rfl
theorem tyD38 : tyD 38 = some ⟨(.slice 69), 1, 24, [(.list [] .nil)]⟩ := rfl
theorem tyD40 : tyD 40 = some ⟨.func, 1, 8, [.nilf]⟩ := rfl
theorem tyD41 : tyD 41 = some ⟨(.ptr 45), 1, 8, [.nilp]⟩ := rfl
theorem tyD42 : tyD 42 = some ⟨(.ptr 74), 1, 8, [.nilp]⟩ := rfl
theorem tyD43 : tyD 43 = some ⟨.func, 1, 8, [.nilf]⟩ := rfl
theorem tyD44 : tyD 44 = some ⟨(.struct [(0, 42), (1, 32), (2, 3), (3, 3), (4, 31)]), 9, 128, [.nilp, (.int .i64 0), (.int .i64 0), (.int .i64 0), (.str []), (.int .i64 0), (.list [] .nil), (.list [] .nil), (.list [] .nil)]⟩ := rfl
theorem tyD45 : tyD 45 = some ⟨(.struct [(0, 42), (1, 32), (2, 3), (3, 3), (4, 31)]), 9, 128, [.nilp, (.int .i64 0), (.int .i64 0), (.int .i64 0), (.str []), (.int .i64 0), (.list [] .nil), (.list [] .nil), (.list [] .nil)]⟩ := rfl
theorem tyD46 : tyD 46 = some ⟨.func, 1, 8, [.nilf]⟩ := rfl
theorem tyD47 : tyD 47 = some ⟨.func, 1, 8, [.nilf]⟩ := rfl
theorem tyD48 : tyD 48 = some ⟨(.slice 3), 1, 24, [(.list [] .nil)]⟩ := rfl
theorem tyD49 : tyD 49 = some ⟨.func, 1, 8, [.nilf]⟩ := rfl
theorem tyD50 : tyD 50 = some ⟨(.map 9 3), 1, 8, [.nilm]⟩ := rfl
theorem tyD51 : tyD 51 = some ⟨(.struct [(0, 50), (1, 50)]), 2, 16, [.nilm, .nilm]⟩ := rfl
theorem tyD52 : tyD 52 = some ⟨(.struct [(0, 50), (1, 50)]), 2, 16, [.nilm, .nilm]⟩ := rfl
theorem tyD53 : tyD 53 = some ⟨.func, 1, 8, [.nilf]⟩ := rfl
theorem tyD54 : tyD 54 = some ⟨.func, 1, 8, [.nilf]⟩ := rfl
theorem tyD55 : tyD 55 = some ⟨(.struct [(0, 9), (1, 27), (2, 48), (3, 3), (4, 3)]), 5, 80, [(.str []), (.list [] .nil), (.list [] .nil), (.int .i64 0), (.int .i64 0)]⟩ := rfl
theorem tyD56 : tyD 56 = some ⟨(.struct [(0, 9), (1, 27), (2, 48), (3, 3), (4, 3)]), 5, 80, [(.str []), (.list [] .nil), (.list [] .nil), (.int .i64 0), (.int .i64 0)]⟩ := rfl
theorem tyD57 : tyD 57 = some ⟨.func, 1, 8, [.nilf]⟩ := rfl
theorem tyD58 : tyD 58 = some ⟨(.struct [(0, 3), (1, 9), (2, 9), (3, 3), (4, 48), (5, 3)]), 6, 80, [(.int .i64 0), (.str []), (.str []), (.int .i64 0), (.list [] .nil), (.int .i64 0)]⟩ := rfl
theorem tyD59 : tyD 59 = some ⟨(.struct [(0, 3), (1, 9), (2, 9), (3, 3), (4, 48), (5, 3)]), 6, 80, [(.int .i64 0), (.str []), (.str []), (.int .i64 0), (.list [] .nil), (.int .i64 0)]⟩ := rfl
theorem tyD61 : tyD 61 = some ⟨.func, 1, 8, [.nilf]⟩ := rfl
theorem tyD63 : tyD 63 = some ⟨.func, 1, 8, [.nilf]⟩ := rfl
theorem tyD64 : tyD 64 = some ⟨.func, 1, 8, [.nilf]⟩ := rfl
theorem tyD66 : tyD 66 = some ⟨.func, 1, 8, [.nilf]⟩ := rfl
theorem tyD67 : tyD 67 = some ⟨(.ptr 71), 1, 8, [.nilp]⟩ := rfl
theorem tyD68 : tyD 68 = some ⟨(.struct [(0, 3), (1, 9), (2, 3), (3, 3)]), 4, 40, [(.int .i64 0), (.str []), (.int .i64 0), (.int .i64 0)]⟩ := rfl
theorem tyD69 : tyD 69 = some ⟨(.struct [(0, 3), (1, 9), (2, 3), (3, 3)]), 4, 40, [(.int .i64 0), (.str []), (.int .i64 0), (.int .i64 0)]⟩ := rfl
theorem tyD70 : tyD 70 = some ⟨(.struct [(0, 9), (1, 3), (2, 3), (3, 69), (7, 32)]), 8, 80, [(.str []), (.int .i64 0), (.int .i64 0), (.int .i64 0), (.str []), (.int .i64 0), (.int .i64 0), (.int .i64 0)]⟩ := rfl
theorem tyD71 : tyD 71 = some ⟨(.struct [(0, 9), (1, 3), (2, 3), (3, 69), (7, 32)]), 8, 80, [(.str []), (.int .i64 0), (.int .i64 0), (.int .i64 0), (.str []), (.int .i64 0), (.int .i64 0), (.int .i64 0)]⟩ := rfl
theorem tyD72 : tyD 72 = some ⟨.func, 1, 8, [.nilf]⟩ := rfl
theorem tyD73 : tyD 73 = some ⟨(.struct [(0, 38), (1, 3)]), 2, 32, [(.list [] .nil), (.int .i64 0)]⟩ := rfl
theorem tyD74 : tyD 74 = some ⟨(.struct [(0, 38), (1, 3)]), 2, 32, [(.list [] .nil), (.int .i64 0)]⟩ := rfl
theorem tyD75 : tyD 75 = some ⟨.func, 1, 8, [.nilf]⟩ := rfl
theorem tyD76 : tyD 76 = some ⟨.func, 1, 8, [.nilf]⟩ := rfl
theorem tyD77 : tyD 77 = some ⟨.func, 1, 8, [.nilf]⟩ := rfl
theorem tyD78 : tyD 78 = some ⟨.func, 1, 8, [.nilf]⟩ := rfl
theorem tyD79 : tyD 79 = some ⟨.func, 1, 8, [.nilf]⟩ := rfl
theorem tyD80 : tyD 80 = some ⟨.func, 1, 8, [.nilf]⟩ := rfl
theorem tyD81 : tyD 81 = some ⟨.func, 1, 8, [.nilf]⟩ := rfl
theorem tyD82 : tyD 82 = some ⟨.func, 1, 8, [.nilf]⟩ := rfl
theorem tyD83 : tyD 83 = some ⟨.func, 1, 8, [.nilf]⟩ := rfl
theorem tyD84 : tyD 84 = some ⟨(.slice 86), 1, 24, [(.list [] .nil)]⟩ := rfl
theorem tyD85 : tyD 85 = some ⟨(.struct [(0, 59), (6, 84)]), 7, 104, [(.int .i64 0), (.str []), (.str []), (.int .i64 0), (.list [] .nil), (.int .i64 0), (.list [] .nil)]⟩ := rfl
theorem tyD86 : tyD 86 = some ⟨(.struct [(0, 59), (6, 84)]), 7, 104, [(.int .i64 0), (.str []), (.str []), (.int .i64 0), (.list [] .nil), (.int .i64 0), (.list [] .nil)]⟩ := rfl
theorem tyD87 : tyD 87 = some ⟨.func, 1, 8, [.nilf]⟩ := rfl
theorem tyD88 : tyD 88 = some ⟨.func, 1, 8, [.nilf]⟩ := rfl
theorem tyD89 : tyD 89 = some ⟨.func, 1, 8, [.nilf]⟩ := rfl
theorem tyD90 : tyD 90 = some ⟨.func, 1, 8, [.nilf]⟩ := rfl
theorem tyD91 : tyD 91 = some ⟨.func, 1, 8, [.nilf]⟩ := rfl
theorem tyD92 : tyD 92 = some ⟨.func, 1, 8, [.nilf]⟩ := rfl
theorem tyD93 : tyD 93 = some ⟨(.slice 136), 1, 24, [(.list [] .nil)]⟩ := rfl
theorem tyD94 : tyD 94 = some ⟨(.struct [(0, 3), (1, 3), (2, 48), (3, 93)]), 4, 64, [(.int .i64 0), (.int .i64 0), (.list [] .nil), (.list [] .nil)]⟩ := rfl
theorem tyD95 : tyD 95 = some ⟨(.struct [(0, 3), (1, 3), (2, 48), (3, 93)]), 4, 64, [(.int .i64 0), (.int .i64 0), (.list [] .nil), (.list [] .nil)]⟩ := rfl
theorem tyD97 : tyD 97 = some ⟨.func, 1, 8, [.nilf]⟩ := rfl
theorem tyD98 : tyD 98 = some ⟨(.struct [(0, 31), (5, 95)]), 9, 160, [(.str []), (.int .i64 0), (.list [] .nil), (.list [] .nil), (.list [] .nil), (.int .i64 0), (.int .i64 0), (.list [] .nil), (.list [] .nil)]⟩ := rfl
theorem tyD99 : tyD 99 = some ⟨(.struct [(0, 31), (5, 95)]), 9, 160, [(.str []), (.int .i64 0), (.list [] .nil), (.list [] .nil), (.list [] .nil), (.int .i64 0), (.int .i64 0), (.list [] .nil), (.list [] .nil)]⟩ := rfl
theorem tyD101 : tyD 101 = some ⟨.func, 1, 8, [.nilf]⟩ := rfl
theorem tyD102 : tyD 102 = some ⟨.func, 1, 8, [.nilf]⟩ := rfl
theorem tyD103 : tyD 103 = some ⟨.func, 1, 8, [.nilf]⟩ := rfl
theorem tyD105 : tyD 105 = some ⟨.func, 1, 8, [.nilf]⟩ := rfl
theorem tyD106 : tyD 106 = some ⟨.func, 1, 8, [.nilf]⟩ := rfl
theorem tyD107 : tyD 107 = some ⟨.func, 1, 8, [.nilf]⟩ := rfl
theorem tyD108 : tyD 108 = some ⟨.func, 1, 8, [.nilf]⟩ := rfl
theorem tyD109 : tyD 109 = some ⟨.func, 1, 8, [.nilf]⟩ := rfl
theorem tyD110 : tyD 110 = some ⟨.func, 1, 8, [.nilf]⟩ := rfl
theorem tyD111 : tyD 111 = some ⟨(.map 9 4), 1, 8, [.nilm]⟩ := rfl
theorem tyD112 : tyD 112 = some ⟨.func, 1, 8, [.nilf]⟩ := rfl
theorem tyD113 : tyD 113 = some ⟨.func, 1, 8, [.nilf]⟩ := rfl
theorem tyD114 : tyD 114 = some ⟨.func, 1, 8, [.nilf]⟩ := rfl
theorem tyD115 : tyD 115 = some ⟨.func, 1, 8, [.nilf]⟩ := rfl
theorem tyD116 : tyD 116 = some ⟨.func, 1, 8, [.nilf]⟩ := rfl
theorem tyD117 : tyD 117 = some ⟨(.ptr 121), 1, 8, [.nilp]⟩ := rfl
theorem tyD119 : tyD 119 = some ⟨.func, 1, 8, [.nilf]⟩ := rfl
theorem tyD120 : tyD 120 = some ⟨(.struct [(0, 31), (5, 48), (6, 95)]), 10, 184, [(.str []), (.int .i64 0), (.list [] .nil), (.list [] .nil), (.list [] .nil), (.list [] .nil), (.int .i64 0), (.int .i64 0), (.list [] .nil), (.list [] .nil)]⟩ := rfl
theorem tyD121 : tyD 121 = some ⟨(.struct [(0, 31), (5, 48), (6, 95)]), 10, 184, [(.str []), (.int .i64 0), (.list [] .nil), (.list [] .nil), (.list [] .nil), (.list [] .nil), (.int .i64 0), (.int .i64 0), (.list [] .nil), (.list [] .nil)]⟩ := rfl
theorem tyD123 : tyD 123 = some ⟨.func, 1, 8, [.nilf]⟩ := rfl
theorem tyD124 : tyD 124 = some ⟨.func, 1, 8, [.nilf]⟩ := rfl
theorem tyD125 : tyD 125 = some ⟨.func, 1, 8, [.nilf]⟩ := rfl
theorem tyD126 : tyD 126 = some ⟨.func, 1, 8, [.nilf]⟩ := rfl
theorem tyD127 : tyD 127 = some ⟨.func, 1, 8, [.nilf]⟩ := rfl
theorem tyD128 : tyD 128 = some ⟨.func, 1, 8, [.nilf]⟩ := rfl
theorem tyD129 : tyD 129 = some ⟨.func, 1, 8, [.nilf]⟩ := rfl
theorem tyD130 : tyD 130 = some ⟨.func, 1, 8, [.nilf]⟩ := rfl
theorem tyD131 : tyD 131 = some ⟨(.slice 146), 1, 24, [(.list [] .nil)]⟩ := rfl
theorem tyD132 : tyD 132 = some ⟨.func, 1, 8, [.nilf]⟩ := rfl
theorem tyD133 : tyD 133 = some ⟨.func, 1, 8, [.nilf]⟩ := rfl
theorem tyD134 : tyD 134 = some ⟨.func, 1, 8, [.nilf]⟩ := rfl
theorem tyD135 : tyD 135 = some ⟨(.struct [(0, 3), (1, 131)]), 2, 32, [(.int .i64 0), (.list [] .nil)]⟩ := rfl
theorem tyD136 : tyD 136 = some ⟨(.struct [(0, 3), (1, 131)]), 2, 32, [(.int .i64 0), (.list [] .nil)]⟩ := rfl
theorem tyD137 : tyD 137 = some ⟨.func, 1, 8, [.nilf]⟩ := rfl
theorem tyD138 : tyD 138 = some ⟨.func, 1, 8, [.nilf]⟩ := rfl
theorem tyD139 : tyD 139 = some ⟨(.array 10 5), 10, 10, [(.int .u8 0), (.int .u8 0), (.int .u8 0), (.int .u8 0), (.int .u8 0), (.int .u8 0), (.int .u8 0), (.int .u8 0), (.int .u8 0), (.int .u8 0)]⟩ := rfl
theorem tyD140 : tyD 140 = some ⟨(.slice 5), 1, 24, [(.list [] .nil)]⟩ := rfl
theorem tyD141 : tyD 141 = some ⟨(.array 4 9), 4, 64, [(.str []), (.str []), (.str []), (.str [])]⟩ := rfl
theorem tyD142 : tyD 142 = some ⟨.func, 1, 8, [.nilf]⟩ := rfl
theorem tyD143 : tyD 143 = some ⟨.func, 1, 8, [.nilf]⟩ := rfl
theorem tyD144 : tyD 144 = some ⟨.func, 1, 8, [.nilf]⟩ := rfl
theorem tyD145 : tyD 145 = some ⟨(.struct [(0, 4), (1, 3)]), 2, 16, [(.bool false), (.int .i64 0)]⟩ := rfl
theorem tyD146 : tyD 146 = some ⟨(.struct [(0, 4), (1, 3)]), 2, 16, [(.bool false), (.int .i64 0)]⟩ := rfl
theorem tyD147 : tyD 147 = some ⟨.func, 1, 8, [.nilf]⟩ := rfl
theorem tyD148 : tyD 148 = some ⟨.func, 1, 8, [.nilf]⟩ := rfl
theorem tyD149 : tyD 149 = some ⟨.func, 1, 8, [.nilf]⟩ := rfl
theorem tyD150 : tyD 150 = some ⟨.func, 1, 8, [.nilf]⟩ := rfl
theorem tyD151 : tyD 151 = some ⟨.func, 1, 8, [.nilf]⟩ := rfl
theorem tyD152 : tyD 152 = some ⟨.func, 1, 8, [.nilf]⟩ := rfl
theorem tyD153 : tyD 153 = some ⟨.func, 1, 8, [.nilf]⟩ := rfl
theorem tyD154 : tyD 154 = some ⟨.func, 1, 8, [.nilf]⟩ := rfl
theorem tyD155 : tyD 155 = some ⟨(.struct [(0, 31)]), 5, 96, [(.str []), (.int .i64 0), (.list [] .nil), (.list [] .nil), (.list [] .nil)]⟩ := rfl
theorem tyD156 : tyD 156 = some ⟨(.struct [(0, 31)]), 5, 96, [(.str []), (.int .i64 0), (.list [] .nil), (.list [] .nil), (.list [] .nil)]⟩ := rfl
theorem tyD157 : tyD 157 = some ⟨.func, 1, 8, [.nilf]⟩ := rfl
theorem tyD158 : tyD 158 = some ⟨.func, 1, 8, [.nilf]⟩ := rfl
theorem tyD159 : tyD 159 = some ⟨(.ptr 161), 1, 8, [.nilp]⟩ := rfl
theorem tyD160 : tyD 160 = some ⟨(.struct [(0, 159), (1, 140)]), 2, 32, [.nilp, (.list [] .nil)]⟩ := rfl
theorem tyD161 : tyD 161 = some ⟨(.struct [(0, 159), (1, 140)]), 2, 32, [.nilp, (.list [] .nil)]⟩ := rfl
theorem tyD165 : tyD 165 = some ⟨.func, 1, 8, [.nilf]⟩ := rfl
theorem tyD166 : tyD 166 = some ⟨.func, 1, 8, [.nilf]⟩ := rfl
theorem tyD167 : tyD 167 = some ⟨(.ptr 5), 1, 8, [.nilp]⟩ := rfl
theorem tyD169 : tyD 169 = some ⟨.func, 1, 8, [.nilf]⟩ := rfl
theorem tyD170 : tyD 170 = some ⟨.func, 1, 8, [.nilf]⟩ := rfl
theorem tyD171 : tyD 171 = some ⟨(.struct [(0, 17), (1, 17), (2, 17), (3, 9)]), 4, 40, [.nilp, .nilp, .nilp, (.str [])]⟩ := rfl
theorem tyD172 : tyD 172 = some ⟨(.struct [(0, 17), (1, 17), (2, 17), (3, 9)]), 4, 40, [.nilp, .nilp, .nilp, (.str [])]⟩ := rfl
theorem tyD173 : tyD 173 = some ⟨(.array 0 16), 0, 0, []⟩ := rfl
theorem tyD174 : tyD 174 = some ⟨(.struct [(0, 173)]), 0, 0, []⟩ := rfl
theorem tyD175 : tyD 175 = some ⟨(.struct [(0, 173)]), 0, 0, []⟩ := rfl
theorem tyD176 : tyD 176 = some ⟨.func, 1, 8, [.nilf]⟩ := rfl
theorem tyD177 : tyD 177 = some ⟨(.scal .u32), 1, 4, [(.int .u32 0)]⟩ := rfl
theorem tyD178 : tyD 178 = some ⟨(.scal .u8), 1, 1, [(.int .u8 0)]⟩ := rfl
theorem tyD179 : tyD 179 = some ⟨(.scal .u8), 1, 1, [(.int .u8 0)]⟩ := rfl
theorem tyD180 : tyD 180 = some ⟨.func, 1, 8, [.nilf]⟩ := rfl
theorem tyD181 : tyD 181 = some ⟨(.scal .i32), 1, 4, [(.int .i32 0)]⟩ := rfl
theorem tyD182 : tyD 182 = some ⟨(.scal .i32), 1, 4, [(.int .i32 0)]⟩ := rfl
theorem tyD183 : tyD 183 = some ⟨(.struct [(0, 12), (1, 12), (2, 177), (3, 178), (4, 5), (5, 5), (6, 179), (7, 180), (8, 167), (9, 181), (10, 182)]), 11, 48, [(.int .u64 0), (.int .u64 0), (.int .u32 0), (.int .u8 0), (.int .u8 0), (.int .u8 0), (.int .u8 0), .nilf, .nilp, (.int .i32 0), (.int .i32 0)]⟩ := rfl
theorem tyD184 : tyD 184 = some ⟨(.struct [(0, 12), (1, 12), (2, 177), (3, 178), (4, 5), (5, 5), (6, 179), (7, 180), (8, 167), (9, 181), (10, 182)]), 11, 48, [(.int .u64 0), (.int .u64 0), (.int .u32 0), (.int .u8 0), (.int .u8 0), (.int .u8 0), (.int .u8 0), .nilf, .nilp, (.int .i32 0), (.int .i32 0)]⟩ := rfl

noncomputable def fnOf (P : Program) (f : FuncId) : Option Func := match P.funcs[f]? with
  | some fn => if fn.body.isSome = true ∧ (fn.name == "runtime.NumGoroutine") = false then some fn else none
  | none => none
def rowsT : FuncId → Nat → Bool
  | 19, _ => true
  | 20, _ => true
  | 37, _ => true
  | _, _ => false
def extT : FuncId → Option (List AV → Option AV)
  | 93 => some xIndexByte
  | 123 => some xSame
  | _ => none
def globT : Nat → Option (List AV)
  | 0 => some [.str [103, 114, 97, 109, 109, 97, 114], .str [108, 111, 111, 107], .str [115, 121, 110, 99], .str [116, 111, 107, 101, 110]]
  | _ => none
noncomputable def cx : Ctx := { P := Tryz.prog, D := tyD, G := globT, rows := rowsT, F := fnOf Tryz.prog, eqs := fun _ => false, ext := extT }
theorem cx_ok : COk cx := by
  constructor
  · kernel_rfl
  · exact tyD_ok
  · intro t h; simp [cx] at h
  · intro f h hf
    simp only [cx] at hf
    unfold extT at hf
    split at hf
    · simp only [Option.some.injEq] at hf; subst hf
      exact xIndexByte_ok (fn := Tryz.f93) Tryz.func93 (by kernel_rfl) (by kernel_rfl) (by kernel_rfl) (by kernel_rfl)
    · simp only [Option.some.injEq] at hf; subst hf
      exact xSame_ok (fn := Tryz.f123) Tryz.func123 (by kernel_rfl) (by kernel_rfl) (by kernel_rfl) (by kernel_rfl)
    · simp at hf
  · intro f fn h
    simp only [cx, fnOf] at h
    split at h
    · rename_i fn' hf
      split at h
      · rename_i hc
        simp only [Option.some.injEq] at h; subst h; exact ⟨hf, hc.1, hc.2⟩
      · simp at h
    · simp at h
theorem cx_D (t : TypeId) : cx.D t = tyD t := rfl

end Go.W
