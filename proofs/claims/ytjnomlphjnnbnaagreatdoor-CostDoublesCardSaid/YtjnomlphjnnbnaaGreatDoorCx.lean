/- The program's types as a table, proved to be the program's, and the context of the evaluator. Conditions: none. -/
import Derived.Test.YtjnomlphjnnbnaaGreatDoorX4
import Derived.Test.YtjnomlphjnnbnaaGreatDoorX5
import Derived.Test.YtjnomlphjnnbnaaGreatDoorW18
import Derived.Test.YtjnomlphjnnbnaaGreatDoorProg
import Derived.KernelRfl
set_option linter.unusedVariables false
set_option maxRecDepth 100000
namespace Go.W
open Go.Proofs

def kdOf : TypeDesc → TK
  | .int k => .scal k
  | .bool => .bool
  | .string => .str
  | .pointer e => .ptr e
  | .slice e => .slice e
  | .array n e => .array n e
  | .map k e => .map k e
  | .struct fs => .struct (fs.toList.map fun f => (f.offset, f.type))
  | .func _ _ _ => .func
  | _ => .struct [(0, 0), (0, 0)]
def kdGood : TypeDesc → Bool
  | .int _ | .bool | .string | .pointer _ | .slice _ | .array _ _ | .map _ _ | .struct _ | .func _ _ _ => true
  | _ => false
theorem kdOf_ok (u : TypeDesc) (h : kdGood u = true) : KdOk (kdOf u) u := by
  cases u <;> simp [kdGood] at h <;> simp [kdOf, KdOk]
theorem tyOk_of {P : Program} {t : TypeId} {d : TD} {z : Value} (h1 : (P.info? t).map (fun i => (i.zero, i.size, i.bytes)) = some (some z, d.size, d.bytes)) (h2 : (P.underlying t).map (fun u => (kdOf u, kdGood u)) = some (d.kd, true))
    (h3 : absCs z.cells.toList = some d.zero) (h4 : d.zero.length = d.size) (h5 : (match z with | .agg _ => true | _ => false) = d.kd.isAgg) : TyOk P t d := by
  constructor
  · obtain ⟨i, hi, hj⟩ := Option.map_eq_some_iff.1 h1
    simp only [Prod.mk.injEq] at hj
    refine ⟨i, z, hi, hj.2.1, hj.2.2, hj.1, h3, h4, fun ha => ?_, fun ha => ?_⟩
    · rw [ha] at h5; cases z <;> simp at h5; exact ⟨_, rfl⟩
    · rw [ha] at h5; cases z <;> first | rfl | simp at h5 | skip
      have hl : d.size = 1 ∨ True := .inr trivial
      simp [Value.cells, absCs, absC] at h3
  · obtain ⟨u, hu, hj⟩ := Option.map_eq_some_iff.1 h2
    simp only [Prod.mk.injEq] at hj
    exact ⟨u, hu, hj.1 ▸ kdOf_ok u hj.2⟩

def tyD : TypeId → Option TD
  | 1 => some ⟨.func, 1, 8, [.nilf]⟩
  | 2 => some ⟨(.scal .i64), 1, 8, [(.int .i64 0)]⟩
  | 3 => some ⟨(.scal .i64), 1, 8, [(.int .i64 0)]⟩
  | 4 => some ⟨.bool, 1, 1, [(.bool false)]⟩
  | 5 => some ⟨(.scal .u8), 1, 1, [(.int .u8 0)]⟩
  | 6 => some ⟨(.scal .u8), 1, 1, [(.int .u8 0)]⟩
  | 7 => some ⟨(.struct [(0, 2), (1, 3), (2, 4), (3, 6)]), 4, 24, [(.int .i64 0), (.int .i64 0), (.bool false), (.int .u8 0)]⟩
  | 8 => some ⟨(.struct [(0, 2), (1, 3), (2, 4), (3, 6)]), 4, 24, [(.int .i64 0), (.int .i64 0), (.bool false), (.int .u8 0)]⟩
  | 9 => some ⟨.str, 1, 16, [(.str [])]⟩
  | 10 => some ⟨.str, 1, 16, [(.str [])]⟩
  | 11 => some ⟨.str, 1, 16, [(.str [])]⟩
  | 12 => some ⟨(.scal .u64), 1, 8, [(.int .u64 0)]⟩
  | 13 => some ⟨(.struct [(0, 9), (1, 12)]), 2, 24, [(.str []), (.int .u64 0)]⟩
  | 14 => some ⟨(.struct [(0, 9), (1, 12)]), 2, 24, [(.str []), (.int .u64 0)]⟩
  | 15 => some ⟨(.ptr 179), 1, 8, [.nilp]⟩
  | 16 => some ⟨(.ptr 182), 1, 8, [.nilp]⟩
  | 17 => some ⟨(.ptr 192), 1, 8, [.nilp]⟩
  | 18 => some ⟨(.struct [(0, 17)]), 1, 8, [.nilp]⟩
  | 19 => some ⟨(.struct [(0, 17)]), 1, 8, [.nilp]⟩
  | 21 => some ⟨(.scal .i32), 1, 4, [(.int .i32 0)]⟩
  | 22 => some ⟨.func, 1, 8, [.nilf]⟩
  | 23 => some ⟨(.slice 9), 1, 24, [(.list [] .nil)]⟩
  | 24 => some ⟨(.slice 30), 1, 24, [(.list [] .nil)]⟩
  | 25 => some ⟨(.slice 32), 1, 24, [(.list [] .nil)]⟩
  | 26 => some ⟨(.struct [(0, 9), (1, 3), (2, 23), (3, 24), (4, 25)]), 5, 96, [(.str []), (.int .i64 0), (.list [] .nil), (.list [] .nil), (.list [] .nil)]⟩
  | 27 => some ⟨(.struct [(0, 9), (1, 3), (2, 23), (3, 24), (4, 25)]), 5, 96, [(.str []), (.int .i64 0), (.list [] .nil), (.list [] .nil), (.list [] .nil)]⟩
  | 28 => some ⟨(.slice 3), 1, 24, [(.list [] .nil)]⟩
  | 29 => some ⟨(.struct [(0, 9), (1, 23), (2, 28), (3, 3), (4, 3)]), 5, 80, [(.str []), (.list [] .nil), (.list [] .nil), (.int .i64 0), (.int .i64 0)]⟩
  | 30 => some ⟨(.struct [(0, 9), (1, 23), (2, 28), (3, 3), (4, 3)]), 5, 80, [(.str []), (.list [] .nil), (.list [] .nil), (.int .i64 0), (.int .i64 0)]⟩
  | 31 => some ⟨(.struct [(0, 3), (1, 9), (2, 9), (3, 3), (4, 28), (5, 3)]), 6, 80, [(.int .i64 0), (.str []), (.str []), (.int .i64 0), (.list [] .nil), (.int .i64 0)]⟩
  | 32 => some ⟨(.struct [(0, 3), (1, 9), (2, 9), (3, 3), (4, 28), (5, 3)]), 6, 80, [(.int .i64 0), (.str []), (.str []), (.int .i64 0), (.list [] .nil), (.int .i64 0)]⟩
  | 33 => some ⟨(.scal .i64), 1, 8, [(.int .i64 0)]⟩
  | 35 => some ⟨.func, 1, 8, [.nilf]⟩
  | 36 => some ⟨.func, 1, 8, [.nilf]⟩
  | 38 => some ⟨.func, 1, 8, [.nilf]⟩
  | 39 => some ⟨.func, 1, 8, [.nilf]⟩
  | 40 => some ⟨.func, 1, 8, [.nilf]⟩
  | 41 => some ⟨.func, 1, 8, [.nilf]⟩
  | 42 => some ⟨(.ptr 106), 1, 8, [.nilp]⟩
  | 44 => some ⟨.func, 1, 8, [.nilf]⟩
  | 45 => some ⟨(.slice 72), 1, 24, [(.list [] .nil)]⟩
  | 47 => some ⟨.func, 1, 8, [.nilf]⟩
  | 48 => some ⟨(.ptr 52), 1, 8, [.nilp]⟩
  | 49 => some ⟨(.ptr 77), 1, 8, [.nilp]⟩
  | 50 => some ⟨.func, 1, 8, [.nilf]⟩
  | 51 => some ⟨(.struct [(0, 49), (1, 33), (2, 3), (3, 3), (4, 27)]), 9, 128, [.nilp, (.int .i64 0), (.int .i64 0), (.int .i64 0), (.str []), (.int .i64 0), (.list [] .nil), (.list [] .nil), (.list [] .nil)]⟩
  | 52 => some ⟨(.struct [(0, 49), (1, 33), (2, 3), (3, 3), (4, 27)]), 9, 128, [.nilp, (.int .i64 0), (.int .i64 0), (.int .i64 0), (.str []), (.int .i64 0), (.list [] .nil), (.list [] .nil), (.list [] .nil)]⟩
  | 53 => some ⟨.func, 1, 8, [.nilf]⟩
  | 54 => some ⟨.func, 1, 8, [.nilf]⟩
  | 55 => some ⟨.func, 1, 8, [.nilf]⟩
  | 56 => some ⟨(.map 9 3), 1, 8, [.nilm]⟩
  | 57 => some ⟨(.struct [(0, 56), (1, 56)]), 2, 16, [.nilm, .nilm]⟩
  | 58 => some ⟨(.struct [(0, 56), (1, 56)]), 2, 16, [.nilm, .nilm]⟩
  | 59 => some ⟨.func, 1, 8, [.nilf]⟩
  | 60 => some ⟨.func, 1, 8, [.nilf]⟩
  | 61 => some ⟨.func, 1, 8, [.nilf]⟩
  | 63 => some ⟨.func, 1, 8, [.nilf]⟩
  | 65 => some ⟨.func, 1, 8, [.nilf]⟩
  | 66 => some ⟨.func, 1, 8, [.nilf]⟩
  | 68 => some ⟨.func, 1, 8, [.nilf]⟩
  | 69 => some ⟨.func, 1, 8, [.nilf]⟩
  | 70 => some ⟨(.ptr 74), 1, 8, [.nilp]⟩
  | 71 => some ⟨(.struct [(0, 3), (1, 9), (2, 3), (3, 3)]), 4, 40, [(.int .i64 0), (.str []), (.int .i64 0), (.int .i64 0)]⟩
  | 72 => some ⟨(.struct [(0, 3), (1, 9), (2, 3), (3, 3)]), 4, 40, [(.int .i64 0), (.str []), (.int .i64 0), (.int .i64 0)]⟩
  | 73 => some ⟨(.struct [(0, 9), (1, 3), (2, 3), (3, 72), (7, 33)]), 8, 80, [(.str []), (.int .i64 0), (.int .i64 0), (.int .i64 0), (.str []), (.int .i64 0), (.int .i64 0), (.int .i64 0)]⟩
  | 74 => some ⟨(.struct [(0, 9), (1, 3), (2, 3), (3, 72), (7, 33)]), 8, 80, [(.str []), (.int .i64 0), (.int .i64 0), (.int .i64 0), (.str []), (.int .i64 0), (.int .i64 0), (.int .i64 0)]⟩
  | 75 => some ⟨.func, 1, 8, [.nilf]⟩
  | 76 => some ⟨(.struct [(0, 45), (1, 3)]), 2, 32, [(.list [] .nil), (.int .i64 0)]⟩
  | 77 => some ⟨(.struct [(0, 45), (1, 3)]), 2, 32, [(.list [] .nil), (.int .i64 0)]⟩
  | 78 => some ⟨.func, 1, 8, [.nilf]⟩
  | 79 => some ⟨.func, 1, 8, [.nilf]⟩
  | 80 => some ⟨.func, 1, 8, [.nilf]⟩
  | 81 => some ⟨.func, 1, 8, [.nilf]⟩
  | 82 => some ⟨.func, 1, 8, [.nilf]⟩
  | 83 => some ⟨.func, 1, 8, [.nilf]⟩
  | 84 => some ⟨.func, 1, 8, [.nilf]⟩
  | 85 => some ⟨.func, 1, 8, [.nilf]⟩
  | 86 => some ⟨.func, 1, 8, [.nilf]⟩
  | 87 => some ⟨(.slice 89), 1, 24, [(.list [] .nil)]⟩
  | 88 => some ⟨(.struct [(0, 32), (6, 87)]), 7, 104, [(.int .i64 0), (.str []), (.str []), (.int .i64 0), (.list [] .nil), (.int .i64 0), (.list [] .nil)]⟩
  | 89 => some ⟨(.struct [(0, 32), (6, 87)]), 7, 104, [(.int .i64 0), (.str []), (.str []), (.int .i64 0), (.list [] .nil), (.int .i64 0), (.list [] .nil)]⟩
  | 90 => some ⟨.func, 1, 8, [.nilf]⟩
  | 91 => some ⟨.func, 1, 8, [.nilf]⟩
  | 92 => some ⟨.func, 1, 8, [.nilf]⟩
  | 93 => some ⟨.func, 1, 8, [.nilf]⟩
  | 94 => some ⟨.func, 1, 8, [.nilf]⟩
  | 95 => some ⟨(.slice 147), 1, 24, [(.list [] .nil)]⟩
  | 96 => some ⟨(.struct [(0, 3), (1, 3), (2, 28), (3, 95)]), 4, 64, [(.int .i64 0), (.int .i64 0), (.list [] .nil), (.list [] .nil)]⟩
  | 97 => some ⟨(.struct [(0, 3), (1, 3), (2, 28), (3, 95)]), 4, 64, [(.int .i64 0), (.int .i64 0), (.list [] .nil), (.list [] .nil)]⟩
  | 99 => some ⟨.func, 1, 8, [.nilf]⟩
  | 100 => some ⟨.func, 1, 8, [.nilf]⟩
  | 101 => some ⟨(.slice 4), 1, 24, [(.list [] .nil)]⟩
  | 103 => some ⟨.func, 1, 8, [.nilf]⟩
  | 104 => some ⟨(.map 3 3), 1, 8, [.nilm]⟩
  | 105 => some ⟨(.struct [(0, 27), (5, 97), (9, 101), (10, 104)]), 11, 192, [(.str []), (.int .i64 0), (.list [] .nil), (.list [] .nil), (.list [] .nil), (.int .i64 0), (.int .i64 0), (.list [] .nil), (.list [] .nil), (.list [] .nil), .nilm]⟩
  | 106 => some ⟨(.struct [(0, 27), (5, 97), (9, 101), (10, 104)]), 11, 192, [(.str []), (.int .i64 0), (.list [] .nil), (.list [] .nil), (.list [] .nil), (.int .i64 0), (.int .i64 0), (.list [] .nil), (.list [] .nil), (.list [] .nil), .nilm]⟩
  | 108 => some ⟨.func, 1, 8, [.nilf]⟩
  | 109 => some ⟨.func, 1, 8, [.nilf]⟩
  | 111 => some ⟨.func, 1, 8, [.nilf]⟩
  | 112 => some ⟨.func, 1, 8, [.nilf]⟩
  | 113 => some ⟨.func, 1, 8, [.nilf]⟩
  | 114 => some ⟨.func, 1, 8, [.nilf]⟩
  | 115 => some ⟨.func, 1, 8, [.nilf]⟩
  | 116 => some ⟨.func, 1, 8, [.nilf]⟩
  | 117 => some ⟨(.map 9 4), 1, 8, [.nilm]⟩
  | 118 => some ⟨.func, 1, 8, [.nilf]⟩
  | 119 => some ⟨.func, 1, 8, [.nilf]⟩
  | 120 => some ⟨.func, 1, 8, [.nilf]⟩
  | 121 => some ⟨.func, 1, 8, [.nilf]⟩
  | 122 => some ⟨(.ptr 126), 1, 8, [.nilp]⟩
  | 124 => some ⟨.func, 1, 8, [.nilf]⟩
  | 125 => some ⟨(.struct [(0, 27), (5, 28), (6, 97)]), 10, 184, [(.str []), (.int .i64 0), (.list [] .nil), (.list [] .nil), (.list [] .nil), (.list [] .nil), (.int .i64 0), (.int .i64 0), (.list [] .nil), (.list [] .nil)]⟩
  | 126 => some ⟨(.struct [(0, 27), (5, 28), (6, 97)]), 10, 184, [(.str []), (.int .i64 0), (.list [] .nil), (.list [] .nil), (.list [] .nil), (.list [] .nil), (.int .i64 0), (.int .i64 0), (.list [] .nil), (.list [] .nil)]⟩
  | 127 => some ⟨.func, 1, 8, [.nilf]⟩
  | 128 => some ⟨(.slice 28), 1, 24, [(.list [] .nil)]⟩
  | 129 => some ⟨(.slice 28), 1, 24, [(.list [] .nil)]⟩
  | 130 => some ⟨.func, 1, 8, [.nilf]⟩
  | 131 => some ⟨.func, 1, 8, [.nilf]⟩
  | 132 => some ⟨.func, 1, 8, [.nilf]⟩
  | 133 => some ⟨(.struct [(0, 4), (1, 3)]), 2, 16, [(.bool false), (.int .i64 0)]⟩
  | 134 => some ⟨(.struct [(0, 4), (1, 3)]), 2, 16, [(.bool false), (.int .i64 0)]⟩
  | 135 => some ⟨.func, 1, 8, [.nilf]⟩
  | 136 => some ⟨.func, 1, 8, [.nilf]⟩
  | 137 => some ⟨.func, 1, 8, [.nilf]⟩
  | 138 => some ⟨.func, 1, 8, [.nilf]⟩
  | 139 => some ⟨.func, 1, 8, [.nilf]⟩
  | 140 => some ⟨.func, 1, 8, [.nilf]⟩
  | 141 => some ⟨.func, 1, 8, [.nilf]⟩
  | 142 => some ⟨(.slice 134), 1, 24, [(.list [] .nil)]⟩
  | 143 => some ⟨.func, 1, 8, [.nilf]⟩
  | 144 => some ⟨.func, 1, 8, [.nilf]⟩
  | 145 => some ⟨.func, 1, 8, [.nilf]⟩
  | 146 => some ⟨(.struct [(0, 3), (1, 142)]), 2, 32, [(.int .i64 0), (.list [] .nil)]⟩
  | 147 => some ⟨(.struct [(0, 3), (1, 142)]), 2, 32, [(.int .i64 0), (.list [] .nil)]⟩
  | 148 => some ⟨.func, 1, 8, [.nilf]⟩
  | 149 => some ⟨.func, 1, 8, [.nilf]⟩
  | 150 => some ⟨.func, 1, 8, [.nilf]⟩
  | 151 => some ⟨.func, 1, 8, [.nilf]⟩
  | 152 => some ⟨(.map 3 28), 1, 8, [.nilm]⟩
  | 153 => some ⟨(.struct [(0, 97), (4, 152)]), 5, 72, [(.int .i64 0), (.int .i64 0), (.list [] .nil), (.list [] .nil), .nilm]⟩
  | 154 => some ⟨(.struct [(0, 97), (4, 152)]), 5, 72, [(.int .i64 0), (.int .i64 0), (.list [] .nil), (.list [] .nil), .nilm]⟩
  | 155 => some ⟨.func, 1, 8, [.nilf]⟩
  | 156 => some ⟨.func, 1, 8, [.nilf]⟩
  | 158 => some ⟨.func, 1, 8, [.nilf]⟩
  | 159 => some ⟨.func, 1, 8, [.nilf]⟩
  | 160 => some ⟨.func, 1, 8, [.nilf]⟩
  | 161 => some ⟨(.array 4 9), 4, 64, [(.str []), (.str []), (.str []), (.str [])]⟩
  | 162 => some ⟨.func, 1, 8, [.nilf]⟩
  | 163 => some ⟨.func, 1, 8, [.nilf]⟩
  | 164 => some ⟨.func, 1, 8, [.nilf]⟩
  | 165 => some ⟨.func, 1, 8, [.nilf]⟩
  | 166 => some ⟨.func, 1, 8, [.nilf]⟩
  | 167 => some ⟨(.slice 169), 1, 24, [(.list [] .nil)]⟩
  | 168 => some ⟨(.struct [(0, 3), (1, 3)]), 2, 16, [(.int .i64 0), (.int .i64 0)]⟩
  | 169 => some ⟨(.struct [(0, 3), (1, 3)]), 2, 16, [(.int .i64 0), (.int .i64 0)]⟩
  | 170 => some ⟨.func, 1, 8, [.nilf]⟩
  | 171 => some ⟨.func, 1, 8, [.nilf]⟩
  | 172 => some ⟨.func, 1, 8, [.nilf]⟩
  | 173 => some ⟨.func, 1, 8, [.nilf]⟩
  | 174 => some ⟨.func, 1, 8, [.nilf]⟩
  | 175 => some ⟨.func, 1, 8, [.nilf]⟩
  | 176 => some ⟨.func, 1, 8, [.nilf]⟩
  | 177 => some ⟨.func, 1, 8, [.nilf]⟩
  | 178 => some ⟨(.struct [(0, 17), (1, 17), (2, 17), (3, 9)]), 4, 40, [.nilp, .nilp, .nilp, (.str [])]⟩
  | 179 => some ⟨(.struct [(0, 17), (1, 17), (2, 17), (3, 9)]), 4, 40, [.nilp, .nilp, .nilp, (.str [])]⟩
  | 180 => some ⟨(.array 0 16), 0, 0, []⟩
  | 181 => some ⟨(.struct [(0, 180)]), 0, 0, []⟩
  | 182 => some ⟨(.struct [(0, 180)]), 0, 0, []⟩
  | 183 => some ⟨.func, 1, 8, [.nilf]⟩
  | 184 => some ⟨(.scal .u32), 1, 4, [(.int .u32 0)]⟩
  | 185 => some ⟨(.scal .u8), 1, 1, [(.int .u8 0)]⟩
  | 186 => some ⟨(.scal .u8), 1, 1, [(.int .u8 0)]⟩
  | 187 => some ⟨.func, 1, 8, [.nilf]⟩
  | 188 => some ⟨(.ptr 5), 1, 8, [.nilp]⟩
  | 189 => some ⟨(.scal .i32), 1, 4, [(.int .i32 0)]⟩
  | 190 => some ⟨(.scal .i32), 1, 4, [(.int .i32 0)]⟩
  | 191 => some ⟨(.struct [(0, 12), (1, 12), (2, 184), (3, 185), (4, 5), (5, 5), (6, 186), (7, 187), (8, 188), (9, 189), (10, 190)]), 11, 48, [(.int .u64 0), (.int .u64 0), (.int .u32 0), (.int .u8 0), (.int .u8 0), (.int .u8 0), (.int .u8 0), .nilf, .nilp, (.int .i32 0), (.int .i32 0)]⟩
  | 192 => some ⟨(.struct [(0, 12), (1, 12), (2, 184), (3, 185), (4, 5), (5, 5), (6, 186), (7, 187), (8, 188), (9, 189), (10, 190)]), 11, 48, [(.int .u64 0), (.int .u64 0), (.int .u32 0), (.int .u8 0), (.int .u8 0), (.int .u8 0), (.int .u8 0), .nilf, .nilp, (.int .i32 0), (.int .i32 0)]⟩
  | _ => none

theorem tyOk1 : TyOk Tryz.prog 1 ⟨.func, 1, 8, [.nilf]⟩ := tyOk_of (z := .nilFunc) (by kernel_rfl) (by kernel_rfl) (by kernel_rfl) rfl rfl
theorem tyOk2 : TyOk Tryz.prog 2 ⟨(.scal .i64), 1, 8, [(.int .i64 0)]⟩ := tyOk_of (z := (.int .i64 0)) (by kernel_rfl) (by kernel_rfl) (by kernel_rfl) rfl rfl
theorem tyOk3 : TyOk Tryz.prog 3 ⟨(.scal .i64), 1, 8, [(.int .i64 0)]⟩ := tyOk_of (z := (.int .i64 0)) (by kernel_rfl) (by kernel_rfl) (by kernel_rfl) rfl rfl
theorem tyOk4 : TyOk Tryz.prog 4 ⟨.bool, 1, 1, [(.bool false)]⟩ := tyOk_of (z := (.bool false)) (by kernel_rfl) (by kernel_rfl) (by kernel_rfl) rfl rfl
theorem tyOk5 : TyOk Tryz.prog 5 ⟨(.scal .u8), 1, 1, [(.int .u8 0)]⟩ := tyOk_of (z := (.int .u8 0)) (by kernel_rfl) (by kernel_rfl) (by kernel_rfl) rfl rfl
theorem tyOk6 : TyOk Tryz.prog 6 ⟨(.scal .u8), 1, 1, [(.int .u8 0)]⟩ := tyOk_of (z := (.int .u8 0)) (by kernel_rfl) (by kernel_rfl) (by kernel_rfl) rfl rfl
theorem tyOk7 : TyOk Tryz.prog 7 ⟨(.struct [(0, 2), (1, 3), (2, 4), (3, 6)]), 4, 24, [(.int .i64 0), (.int .i64 0), (.bool false), (.int .u8 0)]⟩ := tyOk_of (z := (.agg #[(.int .i64 0), (.int .i64 0), (.bool false), (.int .u8 0)])) (by kernel_rfl) (by kernel_rfl) (by kernel_rfl) rfl rfl
theorem tyOk8 : TyOk Tryz.prog 8 ⟨(.struct [(0, 2), (1, 3), (2, 4), (3, 6)]), 4, 24, [(.int .i64 0), (.int .i64 0), (.bool false), (.int .u8 0)]⟩ := tyOk_of (z := (.agg #[(.int .i64 0), (.int .i64 0), (.bool false), (.int .u8 0)])) (by kernel_rfl) (by kernel_rfl) (by kernel_rfl) rfl rfl
theorem tyOk9 : TyOk Tryz.prog 9 ⟨.str, 1, 16, [(.str [])]⟩ := tyOk_of (z := (.string ⟨#[]⟩)) (by kernel_rfl) (by kernel_rfl) (by kernel_rfl) rfl rfl
theorem tyOk10 : TyOk Tryz.prog 10 ⟨.str, 1, 16, [(.str [])]⟩ := tyOk_of (z := (.string ⟨#[]⟩)) (by kernel_rfl) (by kernel_rfl) (by kernel_rfl) rfl rfl
theorem tyOk11 : TyOk Tryz.prog 11 ⟨.str, 1, 16, [(.str [])]⟩ := tyOk_of (z := (.string ⟨#[]⟩)) (by kernel_rfl) (by kernel_rfl) (by kernel_rfl) rfl rfl
theorem tyOk12 : TyOk Tryz.prog 12 ⟨(.scal .u64), 1, 8, [(.int .u64 0)]⟩ := tyOk_of (z := (.int .u64 0)) (by kernel_rfl) (by kernel_rfl) (by kernel_rfl) rfl rfl
theorem tyOk13 : TyOk Tryz.prog 13 ⟨(.struct [(0, 9), (1, 12)]), 2, 24, [(.str []), (.int .u64 0)]⟩ := tyOk_of (z := (.agg #[(.string ⟨#[]⟩), (.int .u64 0)])) (by kernel_rfl) (by kernel_rfl) (by kernel_rfl) rfl rfl
theorem tyOk14 : TyOk Tryz.prog 14 ⟨(.struct [(0, 9), (1, 12)]), 2, 24, [(.str []), (.int .u64 0)]⟩ := tyOk_of (z := (.agg #[(.string ⟨#[]⟩), (.int .u64 0)])) (by kernel_rfl) (by kernel_rfl) (by kernel_rfl) rfl rfl
theorem tyOk15 : TyOk Tryz.prog 15 ⟨(.ptr 179), 1, 8, [.nilp]⟩ := tyOk_of (z := (.pointer none)) (by kernel_rfl) (by kernel_rfl) (by kernel_rfl) rfl rfl
theorem tyOk16 : TyOk Tryz.prog 16 ⟨(.ptr 182), 1, 8, [.nilp]⟩ := tyOk_of (z := (.pointer none)) (by kernel_rfl) (by kernel_rfl) (by kernel_rfl) rfl rfl
theorem tyOk17 : TyOk Tryz.prog 17 ⟨(.ptr 192), 1, 8, [.nilp]⟩ := tyOk_of (z := (.pointer none)) (by kernel_rfl) (by kernel_rfl) (by kernel_rfl) rfl rfl
theorem tyOk18 : TyOk Tryz.prog 18 ⟨(.struct [(0, 17)]), 1, 8, [.nilp]⟩ := tyOk_of (z := (.agg #[(.pointer none)])) (by kernel_rfl) (by kernel_rfl) (by kernel_rfl) rfl rfl
theorem tyOk19 : TyOk Tryz.prog 19 ⟨(.struct [(0, 17)]), 1, 8, [.nilp]⟩ := tyOk_of (z := (.agg #[(.pointer none)])) (by kernel_rfl) (by kernel_rfl) (by kernel_rfl) rfl rfl
theorem tyOk21 : TyOk Tryz.prog 21 ⟨(.scal .i32), 1, 4, [(.int .i32 0)]⟩ := tyOk_of (z := (.int .i32 0)) (by kernel_rfl) (by kernel_rfl) (by kernel_rfl) rfl rfl
theorem tyOk22 : TyOk Tryz.prog 22 ⟨.func, 1, 8, [.nilf]⟩ := tyOk_of (z := .nilFunc) (by kernel_rfl) (by kernel_rfl) (by kernel_rfl) rfl rfl
theorem tyOk23 : TyOk Tryz.prog 23 ⟨(.slice 9), 1, 24, [(.list [] .nil)]⟩ := tyOk_of (z := (.slice none 0 0)) (by kernel_rfl) (by kernel_rfl) (by kernel_rfl) rfl rfl
theorem tyOk24 : TyOk Tryz.prog 24 ⟨(.slice 30), 1, 24, [(.list [] .nil)]⟩ := tyOk_of (z := (.slice none 0 0)) (by kernel_rfl) (by kernel_rfl) (by kernel_rfl) rfl rfl
theorem tyOk25 : TyOk Tryz.prog 25 ⟨(.slice 32), 1, 24, [(.list [] .nil)]⟩ := tyOk_of (z := (.slice none 0 0)) (by kernel_rfl) (by kernel_rfl) (by kernel_rfl) rfl rfl
theorem tyOk26 : TyOk Tryz.prog 26 ⟨(.struct [(0, 9), (1, 3), (2, 23), (3, 24), (4, 25)]), 5, 96, [(.str []), (.int .i64 0), (.list [] .nil), (.list [] .nil), (.list [] .nil)]⟩ := tyOk_of (z := (.agg #[(.string ⟨#[]⟩), (.int .i64 0), (.slice none 0 0), (.slice none 0 0), (.slice none 0 0)])) (by kernel_rfl) (by kernel_rfl) (by kernel_rfl) rfl rfl
theorem tyOk27 : TyOk Tryz.prog 27 ⟨(.struct [(0, 9), (1, 3), (2, 23), (3, 24), (4, 25)]), 5, 96, [(.str []), (.int .i64 0), (.list [] .nil), (.list [] .nil), (.list [] .nil)]⟩ := tyOk_of (z := (.agg #[(.string ⟨#[]⟩), (.int .i64 0), (.slice none 0 0), (.slice none 0 0), (.slice none 0 0)])) (by kernel_rfl) (by kernel_rfl) (by kernel_rfl) rfl rfl
theorem tyOk28 : TyOk Tryz.prog 28 ⟨(.slice 3), 1, 24, [(.list [] .nil)]⟩ := tyOk_of (z := (.slice none 0 0)) (by kernel_rfl) (by kernel_rfl) (by kernel_rfl) rfl rfl
theorem tyOk29 : TyOk Tryz.prog 29 ⟨(.struct [(0, 9), (1, 23), (2, 28), (3, 3), (4, 3)]), 5, 80, [(.str []), (.list [] .nil), (.list [] .nil), (.int .i64 0), (.int .i64 0)]⟩ := tyOk_of (z := (.agg #[(.string ⟨#[]⟩), (.slice none 0 0), (.slice none 0 0), (.int .i64 0), (.int .i64 0)])) (by kernel_rfl) (by kernel_rfl) (by kernel_rfl) rfl rfl
theorem tyOk30 : TyOk Tryz.prog 30 ⟨(.struct [(0, 9), (1, 23), (2, 28), (3, 3), (4, 3)]), 5, 80, [(.str []), (.list [] .nil), (.list [] .nil), (.int .i64 0), (.int .i64 0)]⟩ := tyOk_of (z := (.agg #[(.string ⟨#[]⟩), (.slice none 0 0), (.slice none 0 0), (.int .i64 0), (.int .i64 0)])) (by kernel_rfl) (by kernel_rfl) (by kernel_rfl) rfl rfl
theorem tyOk31 : TyOk Tryz.prog 31 ⟨(.struct [(0, 3), (1, 9), (2, 9), (3, 3), (4, 28), (5, 3)]), 6, 80, [(.int .i64 0), (.str []), (.str []), (.int .i64 0), (.list [] .nil), (.int .i64 0)]⟩ := tyOk_of (z := (.agg #[(.int .i64 0), (.string ⟨#[]⟩), (.string ⟨#[]⟩), (.int .i64 0), (.slice none 0 0), (.int .i64 0)])) (by kernel_rfl) (by kernel_rfl) (by kernel_rfl) rfl rfl
theorem tyOk32 : TyOk Tryz.prog 32 ⟨(.struct [(0, 3), (1, 9), (2, 9), (3, 3), (4, 28), (5, 3)]), 6, 80, [(.int .i64 0), (.str []), (.str []), (.int .i64 0), (.list [] .nil), (.int .i64 0)]⟩ := tyOk_of (z := (.agg #[(.int .i64 0), (.string ⟨#[]⟩), (.string ⟨#[]⟩), (.int .i64 0), (.slice none 0 0), (.int .i64 0)])) (by kernel_rfl) (by kernel_rfl) (by kernel_rfl) rfl rfl
theorem tyOk33 : TyOk Tryz.prog 33 ⟨(.scal .i64), 1, 8, [(.int .i64 0)]⟩ := tyOk_of (z := (.int .i64 0)) (by kernel_rfl) (by kernel_rfl) (by kernel_rfl) rfl rfl
theorem tyOk35 : TyOk Tryz.prog 35 ⟨.func, 1, 8, [.nilf]⟩ := tyOk_of (z := .nilFunc) (by kernel_rfl) (by kernel_rfl) (by kernel_rfl) rfl rfl
theorem tyOk36 : TyOk Tryz.prog 36 ⟨.func, 1, 8, [.nilf]⟩ := tyOk_of (z := .nilFunc) (by kernel_rfl) (by kernel_rfl) (by kernel_rfl) rfl rfl
theorem tyOk38 : TyOk Tryz.prog 38 ⟨.func, 1, 8, [.nilf]⟩ := tyOk_of (z := .nilFunc) (by kernel_rfl) (by kernel_rfl) (by kernel_rfl) rfl rfl
theorem tyOk39 : TyOk Tryz.prog 39 ⟨.func, 1, 8, [.nilf]⟩ := tyOk_of (z := .nilFunc) (by kernel_rfl) (by kernel_rfl) (by kernel_rfl) rfl rfl
theorem tyOk40 : TyOk Tryz.prog 40 ⟨.func, 1, 8, [.nilf]⟩ := tyOk_of (z := .nilFunc) (by kernel_rfl) (by kernel_rfl) (by kernel_rfl) rfl rfl
theorem tyOk41 : TyOk Tryz.prog 41 ⟨.func, 1, 8, [.nilf]⟩ := tyOk_of (z := .nilFunc) (by kernel_rfl) (by kernel_rfl) (by kernel_rfl) rfl rfl
theorem tyOk42 : TyOk Tryz.prog 42 ⟨(.ptr 106), 1, 8, [.nilp]⟩ := tyOk_of (z := (.pointer none)) (by kernel_rfl) (by kernel_rfl) (by kernel_rfl) rfl rfl
theorem tyOk44 : TyOk Tryz.prog 44 ⟨.func, 1, 8, [.nilf]⟩ := tyOk_of (z := .nilFunc) (by kernel_rfl) (by kernel_rfl) (by kernel_rfl) rfl rfl
theorem tyOk45 : TyOk Tryz.prog 45 ⟨(.slice 72), 1, 24, [(.list [] .nil)]⟩ := tyOk_of (z := (.slice none 0 0)) (by kernel_rfl) (by kernel_rfl) (by kernel_rfl) rfl rfl
theorem tyOk47 : TyOk Tryz.prog 47 ⟨.func, 1, 8, [.nilf]⟩ := tyOk_of (z := .nilFunc) (by kernel_rfl) (by kernel_rfl) (by kernel_rfl) rfl rfl
theorem tyOk48 : TyOk Tryz.prog 48 ⟨(.ptr 52), 1, 8, [.nilp]⟩ := tyOk_of (z := (.pointer none)) (by kernel_rfl) (by kernel_rfl) (by kernel_rfl) rfl rfl
theorem tyOk49 : TyOk Tryz.prog 49 ⟨(.ptr 77), 1, 8, [.nilp]⟩ := tyOk_of (z := (.pointer none)) (by kernel_rfl) (by kernel_rfl) (by kernel_rfl) rfl rfl
theorem tyOk50 : TyOk Tryz.prog 50 ⟨.func, 1, 8, [.nilf]⟩ := tyOk_of (z := .nilFunc) (by kernel_rfl) (by kernel_rfl) (by kernel_rfl) rfl rfl
theorem tyOk51 : TyOk Tryz.prog 51 ⟨(.struct [(0, 49), (1, 33), (2, 3), (3, 3), (4, 27)]), 9, 128, [.nilp, (.int .i64 0), (.int .i64 0), (.int .i64 0), (.str []), (.int .i64 0), (.list [] .nil), (.list [] .nil), (.list [] .nil)]⟩ := tyOk_of (z := (.agg #[(.pointer none), (.int .i64 0), (.int .i64 0), (.int .i64 0), (.string ⟨#[]⟩), (.int .i64 0), (.slice none 0 0), (.slice none 0 0), (.slice none 0 0)])) (by kernel_rfl) (by kernel_rfl) (by kernel_rfl) rfl rfl
theorem tyOk52 : TyOk Tryz.prog 52 ⟨(.struct [(0, 49), (1, 33), (2, 3), (3, 3), (4, 27)]), 9, 128, [.nilp, (.int .i64 0), (.int .i64 0), (.int .i64 0), (.str []), (.int .i64 0), (.list [] .nil), (.list [] .nil), (.list [] .nil)]⟩ := tyOk_of (z := (.agg #[(.pointer none), (.int .i64 0), (.int .i64 0), (.int .i64 0), (.string ⟨#[]⟩), (.int .i64 0), (.slice none 0 0), (.slice none 0 0), (.slice none 0 0)])) (by kernel_rfl) (by kernel_rfl) (by kernel_rfl) rfl rfl
theorem tyOk53 : TyOk Tryz.prog 53 ⟨.func, 1, 8, [.nilf]⟩ := tyOk_of (z := .nilFunc) (by kernel_rfl) (by kernel_rfl) (by kernel_rfl) rfl rfl
theorem tyOk54 : TyOk Tryz.prog 54 ⟨.func, 1, 8, [.nilf]⟩ := tyOk_of (z := .nilFunc) (by kernel_rfl) (by kernel_rfl) (by kernel_rfl) rfl rfl
theorem tyOk55 : TyOk Tryz.prog 55 ⟨.func, 1, 8, [.nilf]⟩ := tyOk_of (z := .nilFunc) (by kernel_rfl) (by kernel_rfl) (by kernel_rfl) rfl rfl
theorem tyOk56 : TyOk Tryz.prog 56 ⟨(.map 9 3), 1, 8, [.nilm]⟩ := tyOk_of (z := (.map none)) (by kernel_rfl) (by kernel_rfl) (by kernel_rfl) rfl rfl
theorem tyOk57 : TyOk Tryz.prog 57 ⟨(.struct [(0, 56), (1, 56)]), 2, 16, [.nilm, .nilm]⟩ := tyOk_of (z := (.agg #[(.map none), (.map none)])) (by kernel_rfl) (by kernel_rfl) (by kernel_rfl) rfl rfl
theorem tyOk58 : TyOk Tryz.prog 58 ⟨(.struct [(0, 56), (1, 56)]), 2, 16, [.nilm, .nilm]⟩ := tyOk_of (z := (.agg #[(.map none), (.map none)])) (by kernel_rfl) (by kernel_rfl) (by kernel_rfl) rfl rfl
theorem tyOk59 : TyOk Tryz.prog 59 ⟨.func, 1, 8, [.nilf]⟩ := tyOk_of (z := .nilFunc) (by kernel_rfl) (by kernel_rfl) (by kernel_rfl) rfl rfl
theorem tyOk60 : TyOk Tryz.prog 60 ⟨.func, 1, 8, [.nilf]⟩ := tyOk_of (z := .nilFunc) (by kernel_rfl) (by kernel_rfl) (by kernel_rfl) rfl rfl
theorem tyOk61 : TyOk Tryz.prog 61 ⟨.func, 1, 8, [.nilf]⟩ := tyOk_of (z := .nilFunc) (by kernel_rfl) (by kernel_rfl) (by kernel_rfl) rfl rfl
theorem tyOk63 : TyOk Tryz.prog 63 ⟨.func, 1, 8, [.nilf]⟩ := tyOk_of (z := .nilFunc) (by kernel_rfl) (by kernel_rfl) (by kernel_rfl) rfl rfl
theorem tyOk65 : TyOk Tryz.prog 65 ⟨.func, 1, 8, [.nilf]⟩ := tyOk_of (z := .nilFunc) (by kernel_rfl) (by kernel_rfl) (by kernel_rfl) rfl rfl
theorem tyOk66 : TyOk Tryz.prog 66 ⟨.func, 1, 8, [.nilf]⟩ := tyOk_of (z := .nilFunc) (by kernel_rfl) (by kernel_rfl) (by kernel_rfl) rfl rfl
theorem tyOk68 : TyOk Tryz.prog 68 ⟨.func, 1, 8, [.nilf]⟩ := tyOk_of (z := .nilFunc) (by kernel_rfl) (by kernel_rfl) (by kernel_rfl) rfl rfl
theorem tyOk69 : TyOk Tryz.prog 69 ⟨.func, 1, 8, [.nilf]⟩ := tyOk_of (z := .nilFunc) (by kernel_rfl) (by kernel_rfl) (by kernel_rfl) rfl rfl
theorem tyOk70 : TyOk Tryz.prog 70 ⟨(.ptr 74), 1, 8, [.nilp]⟩ := tyOk_of (z := (.pointer none)) (by kernel_rfl) (by kernel_rfl) (by kernel_rfl) rfl rfl
theorem tyOk71 : TyOk Tryz.prog 71 ⟨(.struct [(0, 3), (1, 9), (2, 3), (3, 3)]), 4, 40, [(.int .i64 0), (.str []), (.int .i64 0), (.int .i64 0)]⟩ := tyOk_of (z := (.agg #[(.int .i64 0), (.string ⟨#[]⟩), (.int .i64 0), (.int .i64 0)])) (by kernel_rfl) (by kernel_rfl) (by kernel_rfl) rfl rfl
theorem tyOk72 : TyOk Tryz.prog 72 ⟨(.struct [(0, 3), (1, 9), (2, 3), (3, 3)]), 4, 40, [(.int .i64 0), (.str []), (.int .i64 0), (.int .i64 0)]⟩ := tyOk_of (z := (.agg #[(.int .i64 0), (.string ⟨#[]⟩), (.int .i64 0), (.int .i64 0)])) (by kernel_rfl) (by kernel_rfl) (by kernel_rfl) rfl rfl
theorem tyOk73 : TyOk Tryz.prog 73 ⟨(.struct [(0, 9), (1, 3), (2, 3), (3, 72), (7, 33)]), 8, 80, [(.str []), (.int .i64 0), (.int .i64 0), (.int .i64 0), (.str []), (.int .i64 0), (.int .i64 0), (.int .i64 0)]⟩ := tyOk_of (z := (.agg #[(.string ⟨#[]⟩), (.int .i64 0), (.int .i64 0), (.int .i64 0), (.string ⟨#[]⟩), (.int .i64 0), (.int .i64 0), (.int .i64 0)])) (by kernel_rfl) (by kernel_rfl) (by kernel_rfl) rfl rfl
theorem tyOk74 : TyOk Tryz.prog 74 ⟨(.struct [(0, 9), (1, 3), (2, 3), (3, 72), (7, 33)]), 8, 80, [(.str []), (.int .i64 0), (.int .i64 0), (.int .i64 0), (.str []), (.int .i64 0), (.int .i64 0), (.int .i64 0)]⟩ := tyOk_of (z := (.agg #[(.string ⟨#[]⟩), (.int .i64 0), (.int .i64 0), (.int .i64 0), (.string ⟨#[]⟩), (.int .i64 0), (.int .i64 0), (.int .i64 0)])) (by kernel_rfl) (by kernel_rfl) (by kernel_rfl) rfl rfl
theorem tyOk75 : TyOk Tryz.prog 75 ⟨.func, 1, 8, [.nilf]⟩ := tyOk_of (z := .nilFunc) (by kernel_rfl) (by kernel_rfl) (by kernel_rfl) rfl rfl
theorem tyOk76 : TyOk Tryz.prog 76 ⟨(.struct [(0, 45), (1, 3)]), 2, 32, [(.list [] .nil), (.int .i64 0)]⟩ := tyOk_of (z := (.agg #[(.slice none 0 0), (.int .i64 0)])) (by kernel_rfl) (by kernel_rfl) (by kernel_rfl) rfl rfl
theorem tyOk77 : TyOk Tryz.prog 77 ⟨(.struct [(0, 45), (1, 3)]), 2, 32, [(.list [] .nil), (.int .i64 0)]⟩ := tyOk_of (z := (.agg #[(.slice none 0 0), (.int .i64 0)])) (by kernel_rfl) (by kernel_rfl) (by kernel_rfl) rfl rfl
theorem tyOk78 : TyOk Tryz.prog 78 ⟨.func, 1, 8, [.nilf]⟩ := tyOk_of (z := .nilFunc) (by kernel_rfl) (by kernel_rfl) (by kernel_rfl) rfl rfl
theorem tyOk79 : TyOk Tryz.prog 79 ⟨.func, 1, 8, [.nilf]⟩ := tyOk_of (z := .nilFunc) (by kernel_rfl) (by kernel_rfl) (by kernel_rfl) rfl rfl
theorem tyOk80 : TyOk Tryz.prog 80 ⟨.func, 1, 8, [.nilf]⟩ := tyOk_of (z := .nilFunc) (by kernel_rfl) (by kernel_rfl) (by kernel_rfl) rfl rfl
theorem tyOk81 : TyOk Tryz.prog 81 ⟨.func, 1, 8, [.nilf]⟩ := tyOk_of (z := .nilFunc) (by kernel_rfl) (by kernel_rfl) (by kernel_rfl) rfl rfl
theorem tyOk82 : TyOk Tryz.prog 82 ⟨.func, 1, 8, [.nilf]⟩ := tyOk_of (z := .nilFunc) (by kernel_rfl) (by kernel_rfl) (by kernel_rfl) rfl rfl
theorem tyOk83 : TyOk Tryz.prog 83 ⟨.func, 1, 8, [.nilf]⟩ := tyOk_of (z := .nilFunc) (by kernel_rfl) (by kernel_rfl) (by kernel_rfl) rfl rfl
theorem tyOk84 : TyOk Tryz.prog 84 ⟨.func, 1, 8, [.nilf]⟩ := tyOk_of (z := .nilFunc) (by kernel_rfl) (by kernel_rfl) (by kernel_rfl) rfl rfl
theorem tyOk85 : TyOk Tryz.prog 85 ⟨.func, 1, 8, [.nilf]⟩ := tyOk_of (z := .nilFunc) (by kernel_rfl) (by kernel_rfl) (by kernel_rfl) rfl rfl
theorem tyOk86 : TyOk Tryz.prog 86 ⟨.func, 1, 8, [.nilf]⟩ := tyOk_of (z := .nilFunc) (by kernel_rfl) (by kernel_rfl) (by kernel_rfl) rfl rfl
theorem tyOk87 : TyOk Tryz.prog 87 ⟨(.slice 89), 1, 24, [(.list [] .nil)]⟩ := tyOk_of (z := (.slice none 0 0)) (by kernel_rfl) (by kernel_rfl) (by kernel_rfl) rfl rfl
theorem tyOk88 : TyOk Tryz.prog 88 ⟨(.struct [(0, 32), (6, 87)]), 7, 104, [(.int .i64 0), (.str []), (.str []), (.int .i64 0), (.list [] .nil), (.int .i64 0), (.list [] .nil)]⟩ := tyOk_of (z := (.agg #[(.int .i64 0), (.string ⟨#[]⟩), (.string ⟨#[]⟩), (.int .i64 0), (.slice none 0 0), (.int .i64 0), (.slice none 0 0)])) (by kernel_rfl) (by kernel_rfl) (by kernel_rfl) rfl rfl
theorem tyOk89 : TyOk Tryz.prog 89 ⟨(.struct [(0, 32), (6, 87)]), 7, 104, [(.int .i64 0), (.str []), (.str []), (.int .i64 0), (.list [] .nil), (.int .i64 0), (.list [] .nil)]⟩ := tyOk_of (z := (.agg #[(.int .i64 0), (.string ⟨#[]⟩), (.string ⟨#[]⟩), (.int .i64 0), (.slice none 0 0), (.int .i64 0), (.slice none 0 0)])) (by kernel_rfl) (by kernel_rfl) (by kernel_rfl) rfl rfl
theorem tyOk90 : TyOk Tryz.prog 90 ⟨.func, 1, 8, [.nilf]⟩ := tyOk_of (z := .nilFunc) (by kernel_rfl) (by kernel_rfl) (by kernel_rfl) rfl rfl
theorem tyOk91 : TyOk Tryz.prog 91 ⟨.func, 1, 8, [.nilf]⟩ := tyOk_of (z := .nilFunc) (by kernel_rfl) (by kernel_rfl) (by kernel_rfl) rfl rfl
theorem tyOk92 : TyOk Tryz.prog 92 ⟨.func, 1, 8, [.nilf]⟩ := tyOk_of (z := .nilFunc) (by kernel_rfl) (by kernel_rfl) (by kernel_rfl) rfl rfl
theorem tyOk93 : TyOk Tryz.prog 93 ⟨.func, 1, 8, [.nilf]⟩ := tyOk_of (z := .nilFunc) (by kernel_rfl) (by kernel_rfl) (by kernel_rfl) rfl rfl
theorem tyOk94 : TyOk Tryz.prog 94 ⟨.func, 1, 8, [.nilf]⟩ := tyOk_of (z := .nilFunc) (by kernel_rfl) (by kernel_rfl) (by kernel_rfl) rfl rfl
theorem tyOk95 : TyOk Tryz.prog 95 ⟨(.slice 147), 1, 24, [(.list [] .nil)]⟩ := tyOk_of (z := (.slice none 0 0)) (by kernel_rfl) (by kernel_rfl) (by kernel_rfl) rfl rfl
theorem tyOk96 : TyOk Tryz.prog 96 ⟨(.struct [(0, 3), (1, 3), (2, 28), (3, 95)]), 4, 64, [(.int .i64 0), (.int .i64 0), (.list [] .nil), (.list [] .nil)]⟩ := tyOk_of (z := (.agg #[(.int .i64 0), (.int .i64 0), (.slice none 0 0), (.slice none 0 0)])) (by kernel_rfl) (by kernel_rfl) (by kernel_rfl) rfl rfl
theorem tyOk97 : TyOk Tryz.prog 97 ⟨(.struct [(0, 3), (1, 3), (2, 28), (3, 95)]), 4, 64, [(.int .i64 0), (.int .i64 0), (.list [] .nil), (.list [] .nil)]⟩ := tyOk_of (z := (.agg #[(.int .i64 0), (.int .i64 0), (.slice none 0 0), (.slice none 0 0)])) (by kernel_rfl) (by kernel_rfl) (by kernel_rfl) rfl rfl
theorem tyOk99 : TyOk Tryz.prog 99 ⟨.func, 1, 8, [.nilf]⟩ := tyOk_of (z := .nilFunc) (by kernel_rfl) (by kernel_rfl) (by kernel_rfl) rfl rfl
theorem tyOk100 : TyOk Tryz.prog 100 ⟨.func, 1, 8, [.nilf]⟩ := tyOk_of (z := .nilFunc) (by kernel_rfl) (by kernel_rfl) (by kernel_rfl) rfl rfl
theorem tyOk101 : TyOk Tryz.prog 101 ⟨(.slice 4), 1, 24, [(.list [] .nil)]⟩ := tyOk_of (z := (.slice none 0 0)) (by kernel_rfl) (by kernel_rfl) (by kernel_rfl) rfl rfl
theorem tyOk103 : TyOk Tryz.prog 103 ⟨.func, 1, 8, [.nilf]⟩ := tyOk_of (z := .nilFunc) (by kernel_rfl) (by kernel_rfl) (by kernel_rfl) rfl rfl
theorem tyOk104 : TyOk Tryz.prog 104 ⟨(.map 3 3), 1, 8, [.nilm]⟩ := tyOk_of (z := (.map none)) (by kernel_rfl) (by kernel_rfl) (by kernel_rfl) rfl rfl
theorem tyOk105 : TyOk Tryz.prog 105 ⟨(.struct [(0, 27), (5, 97), (9, 101), (10, 104)]), 11, 192, [(.str []), (.int .i64 0), (.list [] .nil), (.list [] .nil), (.list [] .nil), (.int .i64 0), (.int .i64 0), (.list [] .nil), (.list [] .nil), (.list [] .nil), .nilm]⟩ := tyOk_of (z := (.agg #[(.string ⟨#[]⟩), (.int .i64 0), (.slice none 0 0), (.slice none 0 0), (.slice none 0 0), (.int .i64 0), (.int .i64 0), (.slice none 0 0), (.slice none 0 0), (.slice none 0 0), (.map none)])) (by kernel_rfl) (by kernel_rfl) (by kernel_rfl) rfl rfl
theorem tyOk106 : TyOk Tryz.prog 106 ⟨(.struct [(0, 27), (5, 97), (9, 101), (10, 104)]), 11, 192, [(.str []), (.int .i64 0), (.list [] .nil), (.list [] .nil), (.list [] .nil), (.int .i64 0), (.int .i64 0), (.list [] .nil), (.list [] .nil), (.list [] .nil), .nilm]⟩ := tyOk_of (z := (.agg #[(.string ⟨#[]⟩), (.int .i64 0), (.slice none 0 0), (.slice none 0 0), (.slice none 0 0), (.int .i64 0), (.int .i64 0), (.slice none 0 0), (.slice none 0 0), (.slice none 0 0), (.map none)])) (by kernel_rfl) (by kernel_rfl) (by kernel_rfl) rfl rfl
theorem tyOk108 : TyOk Tryz.prog 108 ⟨.func, 1, 8, [.nilf]⟩ := tyOk_of (z := .nilFunc) (by kernel_rfl) (by kernel_rfl) (by kernel_rfl) rfl rfl
theorem tyOk109 : TyOk Tryz.prog 109 ⟨.func, 1, 8, [.nilf]⟩ := tyOk_of (z := .nilFunc) (by kernel_rfl) (by kernel_rfl) (by kernel_rfl) rfl rfl
theorem tyOk111 : TyOk Tryz.prog 111 ⟨.func, 1, 8, [.nilf]⟩ := tyOk_of (z := .nilFunc) (by kernel_rfl) (by kernel_rfl) (by kernel_rfl) rfl rfl
theorem tyOk112 : TyOk Tryz.prog 112 ⟨.func, 1, 8, [.nilf]⟩ := tyOk_of (z := .nilFunc) (by kernel_rfl) (by kernel_rfl) (by kernel_rfl) rfl rfl
theorem tyOk113 : TyOk Tryz.prog 113 ⟨.func, 1, 8, [.nilf]⟩ := tyOk_of (z := .nilFunc) (by kernel_rfl) (by kernel_rfl) (by kernel_rfl) rfl rfl
theorem tyOk114 : TyOk Tryz.prog 114 ⟨.func, 1, 8, [.nilf]⟩ := tyOk_of (z := .nilFunc) (by kernel_rfl) (by kernel_rfl) (by kernel_rfl) rfl rfl
theorem tyOk115 : TyOk Tryz.prog 115 ⟨.func, 1, 8, [.nilf]⟩ := tyOk_of (z := .nilFunc) (by kernel_rfl) (by kernel_rfl) (by kernel_rfl) rfl rfl
theorem tyOk116 : TyOk Tryz.prog 116 ⟨.func, 1, 8, [.nilf]⟩ := tyOk_of (z := .nilFunc) (by kernel_rfl) (by kernel_rfl) (by kernel_rfl) rfl rfl
theorem tyOk117 : TyOk Tryz.prog 117 ⟨(.map 9 4), 1, 8, [.nilm]⟩ := tyOk_of (z := (.map none)) (by kernel_rfl) (by kernel_rfl) (by kernel_rfl) rfl rfl
theorem tyOk118 : TyOk Tryz.prog 118 ⟨.func, 1, 8, [.nilf]⟩ := tyOk_of (z := .nilFunc) (by kernel_rfl) (by kernel_rfl) (by kernel_rfl) rfl rfl
theorem tyOk119 : TyOk Tryz.prog 119 ⟨.func, 1, 8, [.nilf]⟩ := tyOk_of (z := .nilFunc) (by kernel_rfl) (by kernel_rfl) (by kernel_rfl) rfl rfl
theorem tyOk120 : TyOk Tryz.prog 120 ⟨.func, 1, 8, [.nilf]⟩ := tyOk_of (z := .nilFunc) (by kernel_rfl) (by kernel_rfl) (by kernel_rfl) rfl rfl
theorem tyOk121 : TyOk Tryz.prog 121 ⟨.func, 1, 8, [.nilf]⟩ := tyOk_of (z := .nilFunc) (by kernel_rfl) (by kernel_rfl) (by kernel_rfl) rfl rfl
theorem tyOk122 : TyOk Tryz.prog 122 ⟨(.ptr 126), 1, 8, [.nilp]⟩ := tyOk_of (z := (.pointer none)) (by kernel_rfl) (by kernel_rfl) (by kernel_rfl) rfl rfl
theorem tyOk124 : TyOk Tryz.prog 124 ⟨.func, 1, 8, [.nilf]⟩ := tyOk_of (z := .nilFunc) (by kernel_rfl) (by kernel_rfl) (by kernel_rfl) rfl rfl
theorem tyOk125 : TyOk Tryz.prog 125 ⟨(.struct [(0, 27), (5, 28), (6, 97)]), 10, 184, [(.str []), (.int .i64 0), (.list [] .nil), (.list [] .nil), (.list [] .nil), (.list [] .nil), (.int .i64 0), (.int .i64 0), (.list [] .nil), (.list [] .nil)]⟩ := tyOk_of (z := (.agg #[(.string ⟨#[]⟩), (.int .i64 0), (.slice none 0 0), (.slice none 0 0), (.slice none 0 0), (.slice none 0 0), (.int .i64 0), (.int .i64 0), (.slice none 0 0), (.slice none 0 0)])) (by kernel_rfl) (by kernel_rfl) (by kernel_rfl) rfl rfl
theorem tyOk126 : TyOk Tryz.prog 126 ⟨(.struct [(0, 27), (5, 28), (6, 97)]), 10, 184, [(.str []), (.int .i64 0), (.list [] .nil), (.list [] .nil), (.list [] .nil), (.list [] .nil), (.int .i64 0), (.int .i64 0), (.list [] .nil), (.list [] .nil)]⟩ := tyOk_of (z := (.agg #[(.string ⟨#[]⟩), (.int .i64 0), (.slice none 0 0), (.slice none 0 0), (.slice none 0 0), (.slice none 0 0), (.int .i64 0), (.int .i64 0), (.slice none 0 0), (.slice none 0 0)])) (by kernel_rfl) (by kernel_rfl) (by kernel_rfl) rfl rfl
theorem tyOk127 : TyOk Tryz.prog 127 ⟨.func, 1, 8, [.nilf]⟩ := tyOk_of (z := .nilFunc) (by kernel_rfl) (by kernel_rfl) (by kernel_rfl) rfl rfl
theorem tyOk128 : TyOk Tryz.prog 128 ⟨(.slice 28), 1, 24, [(.list [] .nil)]⟩ := tyOk_of (z := (.slice none 0 0)) (by kernel_rfl) (by kernel_rfl) (by kernel_rfl) rfl rfl
theorem tyOk129 : TyOk Tryz.prog 129 ⟨(.slice 28), 1, 24, [(.list [] .nil)]⟩ := tyOk_of (z := (.slice none 0 0)) (by kernel_rfl) (by kernel_rfl) (by kernel_rfl) rfl rfl
theorem tyOk130 : TyOk Tryz.prog 130 ⟨.func, 1, 8, [.nilf]⟩ := tyOk_of (z := .nilFunc) (by kernel_rfl) (by kernel_rfl) (by kernel_rfl) rfl rfl
theorem tyOk131 : TyOk Tryz.prog 131 ⟨.func, 1, 8, [.nilf]⟩ := tyOk_of (z := .nilFunc) (by kernel_rfl) (by kernel_rfl) (by kernel_rfl) rfl rfl
theorem tyOk132 : TyOk Tryz.prog 132 ⟨.func, 1, 8, [.nilf]⟩ := tyOk_of (z := .nilFunc) (by kernel_rfl) (by kernel_rfl) (by kernel_rfl) rfl rfl
theorem tyOk133 : TyOk Tryz.prog 133 ⟨(.struct [(0, 4), (1, 3)]), 2, 16, [(.bool false), (.int .i64 0)]⟩ := tyOk_of (z := (.agg #[(.bool false), (.int .i64 0)])) (by kernel_rfl) (by kernel_rfl) (by kernel_rfl) rfl rfl
theorem tyOk134 : TyOk Tryz.prog 134 ⟨(.struct [(0, 4), (1, 3)]), 2, 16, [(.bool false), (.int .i64 0)]⟩ := tyOk_of (z := (.agg #[(.bool false), (.int .i64 0)])) (by kernel_rfl) (by kernel_rfl) (by kernel_rfl) rfl rfl
theorem tyOk135 : TyOk Tryz.prog 135 ⟨.func, 1, 8, [.nilf]⟩ := tyOk_of (z := .nilFunc) (by kernel_rfl) (by kernel_rfl) (by kernel_rfl) rfl rfl
theorem tyOk136 : TyOk Tryz.prog 136 ⟨.func, 1, 8, [.nilf]⟩ := tyOk_of (z := .nilFunc) (by kernel_rfl) (by kernel_rfl) (by kernel_rfl) rfl rfl
theorem tyOk137 : TyOk Tryz.prog 137 ⟨.func, 1, 8, [.nilf]⟩ := tyOk_of (z := .nilFunc) (by kernel_rfl) (by kernel_rfl) (by kernel_rfl) rfl rfl
theorem tyOk138 : TyOk Tryz.prog 138 ⟨.func, 1, 8, [.nilf]⟩ := tyOk_of (z := .nilFunc) (by kernel_rfl) (by kernel_rfl) (by kernel_rfl) rfl rfl
theorem tyOk139 : TyOk Tryz.prog 139 ⟨.func, 1, 8, [.nilf]⟩ := tyOk_of (z := .nilFunc) (by kernel_rfl) (by kernel_rfl) (by kernel_rfl) rfl rfl
theorem tyOk140 : TyOk Tryz.prog 140 ⟨.func, 1, 8, [.nilf]⟩ := tyOk_of (z := .nilFunc) (by kernel_rfl) (by kernel_rfl) (by kernel_rfl) rfl rfl
theorem tyOk141 : TyOk Tryz.prog 141 ⟨.func, 1, 8, [.nilf]⟩ := tyOk_of (z := .nilFunc) (by kernel_rfl) (by kernel_rfl) (by kernel_rfl) rfl rfl
theorem tyOk142 : TyOk Tryz.prog 142 ⟨(.slice 134), 1, 24, [(.list [] .nil)]⟩ := tyOk_of (z := (.slice none 0 0)) (by kernel_rfl) (by kernel_rfl) (by kernel_rfl) rfl rfl
theorem tyOk143 : TyOk Tryz.prog 143 ⟨.func, 1, 8, [.nilf]⟩ := tyOk_of (z := .nilFunc) (by kernel_rfl) (by kernel_rfl) (by kernel_rfl) rfl rfl
theorem tyOk144 : TyOk Tryz.prog 144 ⟨.func, 1, 8, [.nilf]⟩ := tyOk_of (z := .nilFunc) (by kernel_rfl) (by kernel_rfl) (by kernel_rfl) rfl rfl
theorem tyOk145 : TyOk Tryz.prog 145 ⟨.func, 1, 8, [.nilf]⟩ := tyOk_of (z := .nilFunc) (by kernel_rfl) (by kernel_rfl) (by kernel_rfl) rfl rfl
theorem tyOk146 : TyOk Tryz.prog 146 ⟨(.struct [(0, 3), (1, 142)]), 2, 32, [(.int .i64 0), (.list [] .nil)]⟩ := tyOk_of (z := (.agg #[(.int .i64 0), (.slice none 0 0)])) (by kernel_rfl) (by kernel_rfl) (by kernel_rfl) rfl rfl
theorem tyOk147 : TyOk Tryz.prog 147 ⟨(.struct [(0, 3), (1, 142)]), 2, 32, [(.int .i64 0), (.list [] .nil)]⟩ := tyOk_of (z := (.agg #[(.int .i64 0), (.slice none 0 0)])) (by kernel_rfl) (by kernel_rfl) (by kernel_rfl) rfl rfl
theorem tyOk148 : TyOk Tryz.prog 148 ⟨.func, 1, 8, [.nilf]⟩ := tyOk_of (z := .nilFunc) (by kernel_rfl) (by kernel_rfl) (by kernel_rfl) rfl rfl
theorem tyOk149 : TyOk Tryz.prog 149 ⟨.func, 1, 8, [.nilf]⟩ := tyOk_of (z := .nilFunc) (by kernel_rfl) (by kernel_rfl) (by kernel_rfl) rfl rfl
theorem tyOk150 : TyOk Tryz.prog 150 ⟨.func, 1, 8, [.nilf]⟩ := tyOk_of (z := .nilFunc) (by kernel_rfl) (by kernel_rfl) (by kernel_rfl) rfl rfl
theorem tyOk151 : TyOk Tryz.prog 151 ⟨.func, 1, 8, [.nilf]⟩ := tyOk_of (z := .nilFunc) (by kernel_rfl) (by kernel_rfl) (by kernel_rfl) rfl rfl
theorem tyOk152 : TyOk Tryz.prog 152 ⟨(.map 3 28), 1, 8, [.nilm]⟩ := tyOk_of (z := (.map none)) (by kernel_rfl) (by kernel_rfl) (by kernel_rfl) rfl rfl
theorem tyOk153 : TyOk Tryz.prog 153 ⟨(.struct [(0, 97), (4, 152)]), 5, 72, [(.int .i64 0), (.int .i64 0), (.list [] .nil), (.list [] .nil), .nilm]⟩ := tyOk_of (z := (.agg #[(.int .i64 0), (.int .i64 0), (.slice none 0 0), (.slice none 0 0), (.map none)])) (by kernel_rfl) (by kernel_rfl) (by kernel_rfl) rfl rfl
theorem tyOk154 : TyOk Tryz.prog 154 ⟨(.struct [(0, 97), (4, 152)]), 5, 72, [(.int .i64 0), (.int .i64 0), (.list [] .nil), (.list [] .nil), .nilm]⟩ := tyOk_of (z := (.agg #[(.int .i64 0), (.int .i64 0), (.slice none 0 0), (.slice none 0 0), (.map none)])) (by kernel_rfl) (by kernel_rfl) (by kernel_rfl) rfl rfl
theorem tyOk155 : TyOk Tryz.prog 155 ⟨.func, 1, 8, [.nilf]⟩ := tyOk_of (z := .nilFunc) (by kernel_rfl) (by kernel_rfl) (by kernel_rfl) rfl rfl
theorem tyOk156 : TyOk Tryz.prog 156 ⟨.func, 1, 8, [.nilf]⟩ := tyOk_of (z := .nilFunc) (by kernel_rfl) (by kernel_rfl) (by kernel_rfl) rfl rfl
theorem tyOk158 : TyOk Tryz.prog 158 ⟨.func, 1, 8, [.nilf]⟩ := tyOk_of (z := .nilFunc) (by kernel_rfl) (by kernel_rfl) (by kernel_rfl) rfl rfl
theorem tyOk159 : TyOk Tryz.prog 159 ⟨.func, 1, 8, [.nilf]⟩ := tyOk_of (z := .nilFunc) (by kernel_rfl) (by kernel_rfl) (by kernel_rfl) rfl rfl
theorem tyOk160 : TyOk Tryz.prog 160 ⟨.func, 1, 8, [.nilf]⟩ := tyOk_of (z := .nilFunc) (by kernel_rfl) (by kernel_rfl) (by kernel_rfl) rfl rfl
theorem tyOk161 : TyOk Tryz.prog 161 ⟨(.array 4 9), 4, 64, [(.str []), (.str []), (.str []), (.str [])]⟩ := tyOk_of (z := (.agg #[(.string ⟨#[]⟩), (.string ⟨#[]⟩), (.string ⟨#[]⟩), (.string ⟨#[]⟩)])) (by kernel_rfl) (by kernel_rfl) (by kernel_rfl) rfl rfl
theorem tyOk162 : TyOk Tryz.prog 162 ⟨.func, 1, 8, [.nilf]⟩ := tyOk_of (z := .nilFunc) (by kernel_rfl) (by kernel_rfl) (by kernel_rfl) rfl rfl
theorem tyOk163 : TyOk Tryz.prog 163 ⟨.func, 1, 8, [.nilf]⟩ := tyOk_of (z := .nilFunc) (by kernel_rfl) (by kernel_rfl) (by kernel_rfl) rfl rfl
theorem tyOk164 : TyOk Tryz.prog 164 ⟨.func, 1, 8, [.nilf]⟩ := tyOk_of (z := .nilFunc) (by kernel_rfl) (by kernel_rfl) (by kernel_rfl) rfl rfl
theorem tyOk165 : TyOk Tryz.prog 165 ⟨.func, 1, 8, [.nilf]⟩ := tyOk_of (z := .nilFunc) (by kernel_rfl) (by kernel_rfl) (by kernel_rfl) rfl rfl
theorem tyOk166 : TyOk Tryz.prog 166 ⟨.func, 1, 8, [.nilf]⟩ := tyOk_of (z := .nilFunc) (by kernel_rfl) (by kernel_rfl) (by kernel_rfl) rfl rfl
theorem tyOk167 : TyOk Tryz.prog 167 ⟨(.slice 169), 1, 24, [(.list [] .nil)]⟩ := tyOk_of (z := (.slice none 0 0)) (by kernel_rfl) (by kernel_rfl) (by kernel_rfl) rfl rfl
theorem tyOk168 : TyOk Tryz.prog 168 ⟨(.struct [(0, 3), (1, 3)]), 2, 16, [(.int .i64 0), (.int .i64 0)]⟩ := tyOk_of (z := (.agg #[(.int .i64 0), (.int .i64 0)])) (by kernel_rfl) (by kernel_rfl) (by kernel_rfl) rfl rfl
theorem tyOk169 : TyOk Tryz.prog 169 ⟨(.struct [(0, 3), (1, 3)]), 2, 16, [(.int .i64 0), (.int .i64 0)]⟩ := tyOk_of (z := (.agg #[(.int .i64 0), (.int .i64 0)])) (by kernel_rfl) (by kernel_rfl) (by kernel_rfl) rfl rfl
theorem tyOk170 : TyOk Tryz.prog 170 ⟨.func, 1, 8, [.nilf]⟩ := tyOk_of (z := .nilFunc) (by kernel_rfl) (by kernel_rfl) (by kernel_rfl) rfl rfl
theorem tyOk171 : TyOk Tryz.prog 171 ⟨.func, 1, 8, [.nilf]⟩ := tyOk_of (z := .nilFunc) (by kernel_rfl) (by kernel_rfl) (by kernel_rfl) rfl rfl
theorem tyOk172 : TyOk Tryz.prog 172 ⟨.func, 1, 8, [.nilf]⟩ := tyOk_of (z := .nilFunc) (by kernel_rfl) (by kernel_rfl) (by kernel_rfl) rfl rfl
theorem tyOk173 : TyOk Tryz.prog 173 ⟨.func, 1, 8, [.nilf]⟩ := tyOk_of (z := .nilFunc) (by kernel_rfl) (by kernel_rfl) (by kernel_rfl) rfl rfl
theorem tyOk174 : TyOk Tryz.prog 174 ⟨.func, 1, 8, [.nilf]⟩ := tyOk_of (z := .nilFunc) (by kernel_rfl) (by kernel_rfl) (by kernel_rfl) rfl rfl
theorem tyOk175 : TyOk Tryz.prog 175 ⟨.func, 1, 8, [.nilf]⟩ := tyOk_of (z := .nilFunc) (by kernel_rfl) (by kernel_rfl) (by kernel_rfl) rfl rfl
theorem tyOk176 : TyOk Tryz.prog 176 ⟨.func, 1, 8, [.nilf]⟩ := tyOk_of (z := .nilFunc) (by kernel_rfl) (by kernel_rfl) (by kernel_rfl) rfl rfl
theorem tyOk177 : TyOk Tryz.prog 177 ⟨.func, 1, 8, [.nilf]⟩ := tyOk_of (z := .nilFunc) (by kernel_rfl) (by kernel_rfl) (by kernel_rfl) rfl rfl
theorem tyOk178 : TyOk Tryz.prog 178 ⟨(.struct [(0, 17), (1, 17), (2, 17), (3, 9)]), 4, 40, [.nilp, .nilp, .nilp, (.str [])]⟩ := tyOk_of (z := (.agg #[(.pointer none), (.pointer none), (.pointer none), (.string ⟨#[]⟩)])) (by kernel_rfl) (by kernel_rfl) (by kernel_rfl) rfl rfl
theorem tyOk179 : TyOk Tryz.prog 179 ⟨(.struct [(0, 17), (1, 17), (2, 17), (3, 9)]), 4, 40, [.nilp, .nilp, .nilp, (.str [])]⟩ := tyOk_of (z := (.agg #[(.pointer none), (.pointer none), (.pointer none), (.string ⟨#[]⟩)])) (by kernel_rfl) (by kernel_rfl) (by kernel_rfl) rfl rfl
theorem tyOk180 : TyOk Tryz.prog 180 ⟨(.array 0 16), 0, 0, []⟩ := tyOk_of (z := (.agg #[])) (by kernel_rfl) (by kernel_rfl) (by kernel_rfl) rfl rfl
theorem tyOk181 : TyOk Tryz.prog 181 ⟨(.struct [(0, 180)]), 0, 0, []⟩ := tyOk_of (z := (.agg #[])) (by kernel_rfl) (by kernel_rfl) (by kernel_rfl) rfl rfl
theorem tyOk182 : TyOk Tryz.prog 182 ⟨(.struct [(0, 180)]), 0, 0, []⟩ := tyOk_of (z := (.agg #[])) (by kernel_rfl) (by kernel_rfl) (by kernel_rfl) rfl rfl
theorem tyOk183 : TyOk Tryz.prog 183 ⟨.func, 1, 8, [.nilf]⟩ := tyOk_of (z := .nilFunc) (by kernel_rfl) (by kernel_rfl) (by kernel_rfl) rfl rfl
theorem tyOk184 : TyOk Tryz.prog 184 ⟨(.scal .u32), 1, 4, [(.int .u32 0)]⟩ := tyOk_of (z := (.int .u32 0)) (by kernel_rfl) (by kernel_rfl) (by kernel_rfl) rfl rfl
theorem tyOk185 : TyOk Tryz.prog 185 ⟨(.scal .u8), 1, 1, [(.int .u8 0)]⟩ := tyOk_of (z := (.int .u8 0)) (by kernel_rfl) (by kernel_rfl) (by kernel_rfl) rfl rfl
theorem tyOk186 : TyOk Tryz.prog 186 ⟨(.scal .u8), 1, 1, [(.int .u8 0)]⟩ := tyOk_of (z := (.int .u8 0)) (by kernel_rfl) (by kernel_rfl) (by kernel_rfl) rfl rfl
theorem tyOk187 : TyOk Tryz.prog 187 ⟨.func, 1, 8, [.nilf]⟩ := tyOk_of (z := .nilFunc) (by kernel_rfl) (by kernel_rfl) (by kernel_rfl) rfl rfl
theorem tyOk188 : TyOk Tryz.prog 188 ⟨(.ptr 5), 1, 8, [.nilp]⟩ := tyOk_of (z := (.pointer none)) (by kernel_rfl) (by kernel_rfl) (by kernel_rfl) rfl rfl
theorem tyOk189 : TyOk Tryz.prog 189 ⟨(.scal .i32), 1, 4, [(.int .i32 0)]⟩ := tyOk_of (z := (.int .i32 0)) (by kernel_rfl) (by kernel_rfl) (by kernel_rfl) rfl rfl
theorem tyOk190 : TyOk Tryz.prog 190 ⟨(.scal .i32), 1, 4, [(.int .i32 0)]⟩ := tyOk_of (z := (.int .i32 0)) (by kernel_rfl) (by kernel_rfl) (by kernel_rfl) rfl rfl
theorem tyOk191 : TyOk Tryz.prog 191 ⟨(.struct [(0, 12), (1, 12), (2, 184), (3, 185), (4, 5), (5, 5), (6, 186), (7, 187), (8, 188), (9, 189), (10, 190)]), 11, 48, [(.int .u64 0), (.int .u64 0), (.int .u32 0), (.int .u8 0), (.int .u8 0), (.int .u8 0), (.int .u8 0), .nilf, .nilp, (.int .i32 0), (.int .i32 0)]⟩ := tyOk_of (z := (.agg #[(.int .u64 0), (.int .u64 0), (.int .u32 0), (.int .u8 0), (.int .u8 0), (.int .u8 0), (.int .u8 0), .nilFunc, (.pointer none), (.int .i32 0), (.int .i32 0)])) (by kernel_rfl) (by kernel_rfl) (by kernel_rfl) rfl rfl
theorem tyOk192 : TyOk Tryz.prog 192 ⟨(.struct [(0, 12), (1, 12), (2, 184), (3, 185), (4, 5), (5, 5), (6, 186), (7, 187), (8, 188), (9, 189), (10, 190)]), 11, 48, [(.int .u64 0), (.int .u64 0), (.int .u32 0), (.int .u8 0), (.int .u8 0), (.int .u8 0), (.int .u8 0), .nilf, .nilp, (.int .i32 0), (.int .i32 0)]⟩ := tyOk_of (z := (.agg #[(.int .u64 0), (.int .u64 0), (.int .u32 0), (.int .u8 0), (.int .u8 0), (.int .u8 0), (.int .u8 0), .nilFunc, (.pointer none), (.int .i32 0), (.int .i32 0)])) (by kernel_rfl) (by kernel_rfl) (by kernel_rfl) rfl rfl

theorem tyD_ok : ∀ t d, tyD t = some d → TyOk Tryz.prog t d := by
  intro t d h
  unfold tyD at h
  split at h
  · simp only [Option.some.injEq] at h; subst h; exact tyOk1
  · simp only [Option.some.injEq] at h; subst h; exact tyOk2
  · simp only [Option.some.injEq] at h; subst h; exact tyOk3
  · simp only [Option.some.injEq] at h; subst h; exact tyOk4
  · simp only [Option.some.injEq] at h; subst h; exact tyOk5
  · simp only [Option.some.injEq] at h; subst h; exact tyOk6
  · simp only [Option.some.injEq] at h; subst h; exact tyOk7
  · simp only [Option.some.injEq] at h; subst h; exact tyOk8
  · simp only [Option.some.injEq] at h; subst h; exact tyOk9
  · simp only [Option.some.injEq] at h; subst h; exact tyOk10
  · simp only [Option.some.injEq] at h; subst h; exact tyOk11
  · simp only [Option.some.injEq] at h; subst h; exact tyOk12
  · simp only [Option.some.injEq] at h; subst h; exact tyOk13
  · simp only [Option.some.injEq] at h; subst h; exact tyOk14
  · simp only [Option.some.injEq] at h; subst h; exact tyOk15
  · simp only [Option.some.injEq] at h; subst h; exact tyOk16
  · simp only [Option.some.injEq] at h; subst h; exact tyOk17
  · simp only [Option.some.injEq] at h; subst h; exact tyOk18
  · simp only [Option.some.injEq] at h; subst h; exact tyOk19
  · simp only [Option.some.injEq] at h; subst h; exact tyOk21
  · simp only [Option.some.injEq] at h; subst h; exact tyOk22
  · simp only [Option.some.injEq] at h; subst h; exact tyOk23
  · simp only [Option.some.injEq] at h; subst h; exact tyOk24
  · simp only [Option.some.injEq] at h; subst h; exact tyOk25
  · simp only [Option.some.injEq] at h; subst h; exact tyOk26
  · simp only [Option.some.injEq] at h; subst h; exact tyOk27
  · simp only [Option.some.injEq] at h; subst h; exact tyOk28
  · simp only [Option.some.injEq] at h; subst h; exact tyOk29
  · simp only [Option.some.injEq] at h; subst h; exact tyOk30
  · simp only [Option.some.injEq] at h; subst h; exact tyOk31
  · simp only [Option.some.injEq] at h; subst h; exact tyOk32
  · simp only [Option.some.injEq] at h; subst h; exact tyOk33
  · simp only [Option.some.injEq] at h; subst h; exact tyOk35
  · simp only [Option.some.injEq] at h; subst h; exact tyOk36
  · simp only [Option.some.injEq] at h; subst h; exact tyOk38
  · simp only [Option.some.injEq] at h; subst h; exact tyOk39
  · simp only [Option.some.injEq] at h; subst h; exact tyOk40
  · simp only [Option.some.injEq] at h; subst h; exact tyOk41
  · simp only [Option.some.injEq] at h; subst h; exact tyOk42
  · simp only [Option.some.injEq] at h; subst h; exact tyOk44
  · simp only [Option.some.injEq] at h; subst h; exact tyOk45
  · simp only [Option.some.injEq] at h; subst h; exact tyOk47
  · simp only [Option.some.injEq] at h; subst h; exact tyOk48
  · simp only [Option.some.injEq] at h; subst h; exact tyOk49
  · simp only [Option.some.injEq] at h; subst h; exact tyOk50
  · simp only [Option.some.injEq] at h; subst h; exact tyOk51
  · simp only [Option.some.injEq] at h; subst h; exact tyOk52
  · simp only [Option.some.injEq] at h; subst h; exact tyOk53
  · simp only [Option.some.injEq] at h; subst h; exact tyOk54
  · simp only [Option.some.injEq] at h; subst h; exact tyOk55
  · simp only [Option.some.injEq] at h; subst h; exact tyOk56
  · simp only [Option.some.injEq] at h; subst h; exact tyOk57
  · simp only [Option.some.injEq] at h; subst h; exact tyOk58
  · simp only [Option.some.injEq] at h; subst h; exact tyOk59
  · simp only [Option.some.injEq] at h; subst h; exact tyOk60
  · simp only [Option.some.injEq] at h; subst h; exact tyOk61
  · simp only [Option.some.injEq] at h; subst h; exact tyOk63
  · simp only [Option.some.injEq] at h; subst h; exact tyOk65
  · simp only [Option.some.injEq] at h; subst h; exact tyOk66
  · simp only [Option.some.injEq] at h; subst h; exact tyOk68
  · simp only [Option.some.injEq] at h; subst h; exact tyOk69
  · simp only [Option.some.injEq] at h; subst h; exact tyOk70
  · simp only [Option.some.injEq] at h; subst h; exact tyOk71
  · simp only [Option.some.injEq] at h; subst h; exact tyOk72
  · simp only [Option.some.injEq] at h; subst h; exact tyOk73
  · simp only [Option.some.injEq] at h; subst h; exact tyOk74
  · simp only [Option.some.injEq] at h; subst h; exact tyOk75
  · simp only [Option.some.injEq] at h; subst h; exact tyOk76
  · simp only [Option.some.injEq] at h; subst h; exact tyOk77
  · simp only [Option.some.injEq] at h; subst h; exact tyOk78
  · simp only [Option.some.injEq] at h; subst h; exact tyOk79
  · simp only [Option.some.injEq] at h; subst h; exact tyOk80
  · simp only [Option.some.injEq] at h; subst h; exact tyOk81
  · simp only [Option.some.injEq] at h; subst h; exact tyOk82
  · simp only [Option.some.injEq] at h; subst h; exact tyOk83
  · simp only [Option.some.injEq] at h; subst h; exact tyOk84
  · simp only [Option.some.injEq] at h; subst h; exact tyOk85
  · simp only [Option.some.injEq] at h; subst h; exact tyOk86
  · simp only [Option.some.injEq] at h; subst h; exact tyOk87
  · simp only [Option.some.injEq] at h; subst h; exact tyOk88
  · simp only [Option.some.injEq] at h; subst h; exact tyOk89
  · simp only [Option.some.injEq] at h; subst h; exact tyOk90
  · simp only [Option.some.injEq] at h; subst h; exact tyOk91
  · simp only [Option.some.injEq] at h; subst h; exact tyOk92
  · simp only [Option.some.injEq] at h; subst h; exact tyOk93
  · simp only [Option.some.injEq] at h; subst h; exact tyOk94
  · simp only [Option.some.injEq] at h; subst h; exact tyOk95
  · simp only [Option.some.injEq] at h; subst h; exact tyOk96
  · simp only [Option.some.injEq] at h; subst h; exact tyOk97
  · simp only [Option.some.injEq] at h; subst h; exact tyOk99
  · simp only [Option.some.injEq] at h; subst h; exact tyOk100
  · simp only [Option.some.injEq] at h; subst h; exact tyOk101
  · simp only [Option.some.injEq] at h; subst h; exact tyOk103
  · simp only [Option.some.injEq] at h; subst h; exact tyOk104
  · simp only [Option.some.injEq] at h; subst h; exact tyOk105
  · simp only [Option.some.injEq] at h; subst h; exact tyOk106
  · simp only [Option.some.injEq] at h; subst h; exact tyOk108
  · simp only [Option.some.injEq] at h; subst h; exact tyOk109
  · simp only [Option.some.injEq] at h; subst h; exact tyOk111
  · simp only [Option.some.injEq] at h; subst h; exact tyOk112
  · simp only [Option.some.injEq] at h; subst h; exact tyOk113
  · simp only [Option.some.injEq] at h; subst h; exact tyOk114
  · simp only [Option.some.injEq] at h; subst h; exact tyOk115
  · simp only [Option.some.injEq] at h; subst h; exact tyOk116
  · simp only [Option.some.injEq] at h; subst h; exact tyOk117
  · simp only [Option.some.injEq] at h; subst h; exact tyOk118
  · simp only [Option.some.injEq] at h; subst h; exact tyOk119
  · simp only [Option.some.injEq] at h; subst h; exact tyOk120
  · simp only [Option.some.injEq] at h; subst h; exact tyOk121
  · simp only [Option.some.injEq] at h; subst h; exact tyOk122
  · simp only [Option.some.injEq] at h; subst h; exact tyOk124
  · simp only [Option.some.injEq] at h; subst h; exact tyOk125
  · simp only [Option.some.injEq] at h; subst h; exact tyOk126
  · simp only [Option.some.injEq] at h; subst h; exact tyOk127
  · simp only [Option.some.injEq] at h; subst h; exact tyOk128
  · simp only [Option.some.injEq] at h; subst h; exact tyOk129
  · simp only [Option.some.injEq] at h; subst h; exact tyOk130
  · simp only [Option.some.injEq] at h; subst h; exact tyOk131
  · simp only [Option.some.injEq] at h; subst h; exact tyOk132
  · simp only [Option.some.injEq] at h; subst h; exact tyOk133
  · simp only [Option.some.injEq] at h; subst h; exact tyOk134
  · simp only [Option.some.injEq] at h; subst h; exact tyOk135
  · simp only [Option.some.injEq] at h; subst h; exact tyOk136
  · simp only [Option.some.injEq] at h; subst h; exact tyOk137
  · simp only [Option.some.injEq] at h; subst h; exact tyOk138
  · simp only [Option.some.injEq] at h; subst h; exact tyOk139
  · simp only [Option.some.injEq] at h; subst h; exact tyOk140
  · simp only [Option.some.injEq] at h; subst h; exact tyOk141
  · simp only [Option.some.injEq] at h; subst h; exact tyOk142
  · simp only [Option.some.injEq] at h; subst h; exact tyOk143
  · simp only [Option.some.injEq] at h; subst h; exact tyOk144
  · simp only [Option.some.injEq] at h; subst h; exact tyOk145
  · simp only [Option.some.injEq] at h; subst h; exact tyOk146
  · simp only [Option.some.injEq] at h; subst h; exact tyOk147
  · simp only [Option.some.injEq] at h; subst h; exact tyOk148
  · simp only [Option.some.injEq] at h; subst h; exact tyOk149
  · simp only [Option.some.injEq] at h; subst h; exact tyOk150
  · simp only [Option.some.injEq] at h; subst h; exact tyOk151
  · simp only [Option.some.injEq] at h; subst h; exact tyOk152
  · simp only [Option.some.injEq] at h; subst h; exact tyOk153
  · simp only [Option.some.injEq] at h; subst h; exact tyOk154
  · simp only [Option.some.injEq] at h; subst h; exact tyOk155
  · simp only [Option.some.injEq] at h; subst h; exact tyOk156
  · simp only [Option.some.injEq] at h; subst h; exact tyOk158
  · simp only [Option.some.injEq] at h; subst h; exact tyOk159
  · simp only [Option.some.injEq] at h; subst h; exact tyOk160
  · simp only [Option.some.injEq] at h; subst h; exact tyOk161
  · simp only [Option.some.injEq] at h; subst h; exact tyOk162
  · simp only [Option.some.injEq] at h; subst h; exact tyOk163
  · simp only [Option.some.injEq] at h; subst h; exact tyOk164
  · simp only [Option.some.injEq] at h; subst h; exact tyOk165
  · simp only [Option.some.injEq] at h; subst h; exact tyOk166
  · simp only [Option.some.injEq] at h; subst h; exact tyOk167
  · simp only [Option.some.injEq] at h; subst h; exact tyOk168
  · simp only [Option.some.injEq] at h; subst h; exact tyOk169
  · simp only [Option.some.injEq] at h; subst h; exact tyOk170
  · simp only [Option.some.injEq] at h; subst h; exact tyOk171
  · simp only [Option.some.injEq] at h; subst h; exact tyOk172
  · simp only [Option.some.injEq] at h; subst h; exact tyOk173
  · simp only [Option.some.injEq] at h; subst h; exact tyOk174
  · simp only [Option.some.injEq] at h; subst h; exact tyOk175
  · simp only [Option.some.injEq] at h; subst h; exact tyOk176
  · simp only [Option.some.injEq] at h; subst h; exact tyOk177
  · simp only [Option.some.injEq] at h; subst h; exact tyOk178
  · simp only [Option.some.injEq] at h; subst h; exact tyOk179
  · simp only [Option.some.injEq] at h; subst h; exact tyOk180
  · simp only [Option.some.injEq] at h; subst h; exact tyOk181
  · simp only [Option.some.injEq] at h; subst h; exact tyOk182
  · simp only [Option.some.injEq] at h; subst h; exact tyOk183
  · simp only [Option.some.injEq] at h; subst h; exact tyOk184
  · simp only [Option.some.injEq] at h; subst h; exact tyOk185
  · simp only [Option.some.injEq] at h; subst h; exact tyOk186
  · simp only [Option.some.injEq] at h; subst h; exact tyOk187
  · simp only [Option.some.injEq] at h; subst h; exact tyOk188
  · simp only [Option.some.injEq] at h; subst h; exact tyOk189
  · simp only [Option.some.injEq] at h; subst h; exact tyOk190
  · simp only [Option.some.injEq] at h; subst h; exact tyOk191
  · simp only [Option.some.injEq] at h; subst h; exact tyOk192
  · simp at h
theorem tyD1 : tyD 1 = some ⟨.func, 1, 8, [.nilf]⟩ := rfl
theorem tyD2 : tyD 2 = some ⟨(.scal .i64), 1, 8, [(.int .i64 0)]⟩ := rfl
theorem tyD3 : tyD 3 = some ⟨(.scal .i64), 1, 8, [(.int .i64 0)]⟩ := rfl
theorem tyD4 : tyD 4 = some ⟨.bool, 1, 1, [(.bool false)]⟩ := rfl
theorem tyD5 : tyD 5 = some ⟨(.scal .u8), 1, 1, [(.int .u8 0)]⟩ := rfl
theorem tyD6 : tyD 6 = some ⟨(.scal .u8), 1, 1, [(.int .u8 0)]⟩ := rfl
theorem tyD7 : tyD 7 = some ⟨(.struct [(0, 2), (1, 3), (2, 4), (3, 6)]), 4, 24, [(.int .i64 0), (.int .i64 0), (.bool false), (.int .u8 0)]⟩ := rfl
theorem tyD8 : tyD 8 = some ⟨(.struct [(0, 2), (1, 3), (2, 4), (3, 6)]), 4, 24, [(.int .i64 0), (.int .i64 0), (.bool false), (.int .u8 0)]⟩ := rfl
theorem tyD9 : tyD 9 = some ⟨.str, 1, 16, [(.str [])]⟩ := rfl
theorem tyD10 : tyD 10 = some ⟨.str, 1, 16, [(.str [])]⟩ := rfl
theorem tyD11 : tyD 11 = some ⟨.str, 1, 16, [(.str [])]⟩ := rfl
theorem tyD12 : tyD 12 = some ⟨(.scal .u64), 1, 8, [(.int .u64 0)]⟩ := rfl
theorem tyD13 : tyD 13 = some ⟨(.struct [(0, 9), (1, 12)]), 2, 24, [(.str []), (.int .u64 0)]⟩ := rfl
theorem tyD14 : tyD 14 = some ⟨(.struct [(0, 9), (1, 12)]), 2, 24, [(.str []), (.int .u64 0)]⟩ := rfl
theorem tyD15 : tyD 15 = some ⟨(.ptr 179), 1, 8, [.nilp]⟩ := rfl
theorem tyD16 : tyD 16 = some ⟨(.ptr 182), 1, 8, [.nilp]⟩ := rfl
theorem tyD17 : tyD 17 = some ⟨(.ptr 192), 1, 8, [.nilp]⟩ := rfl
theorem tyD18 : tyD 18 = some ⟨(.struct [(0, 17)]), 1, 8, [.nilp]⟩ := rfl
theorem tyD19 : tyD 19 = some ⟨(.struct [(0, 17)]), 1, 8, [.nilp]⟩ := rfl
theorem tyD21 : tyD 21 = some ⟨(.scal .i32), 1, 4, [(.int .i32 0)]⟩ := rfl
theorem tyD22 : tyD 22 = some ⟨.func, 1, 8, [.nilf]⟩ := rfl
theorem tyD23 : tyD 23 = some ⟨(.slice 9), 1, 24, [(.list [] .nil)]⟩ := rfl
theorem tyD24 : tyD 24 = some ⟨(.slice 30), 1, 24, [(.list [] .nil)]⟩ := rfl
theorem tyD25 : tyD 25 = some ⟨(.slice 32), 1, 24, [(.list [] .nil)]⟩ := rfl
theorem tyD26 : tyD 26 = some ⟨(.struct [(0, 9), (1, 3), (2, 23), (3, 24), (4, 25)]), 5, 96, [(.str []), (.int .i64 0), (.list [] .nil), (.list [] .nil), (.list [] .nil)]⟩ := rfl
theorem tyD27 : tyD 27 = some ⟨(.struct [(0, 9), (1, 3), (2, 23), (3, 24), (4, 25)]), 5, 96, [(.str []), (.int .i64 0), (.list [] .nil), (.list [] .nil), (.list [] .nil)]⟩ := rfl
theorem tyD28 : tyD 28 = some ⟨(.slice 3), 1, 24, [(.list [] .nil)]⟩ := rfl
theorem tyD29 : tyD 29 = some ⟨(.struct [(0, 9), (1, 23), (2, 28), (3, 3), (4, 3)]), 5, 80, [(.str []), (.list [] .nil), (.list [] .nil), (.int .i64 0), (.int .i64 0)]⟩ := rfl
theorem tyD30 : tyD 30 = some ⟨(.struct [(0, 9), (1, 23), (2, 28), (3, 3), (4, 3)]), 5, 80, [(.str []), (.list [] .nil), (.list [] .nil), (.int .i64 0), (.int .i64 0)]⟩ := rfl
theorem tyD31 : tyD 31 = some ⟨(.struct [(0, 3), (1, 9), (2, 9), (3, 3), (4, 28), (5, 3)]), 6, 80, [(.int .i64 0), (.str []), (.str []), (.int .i64 0), (.list [] .nil), (.int .i64 0)]⟩ := rfl
theorem tyD32 : tyD 32 = some ⟨(.struct [(0, 3), (1, 9), (2, 9), (3, 3), (4, 28), (5, 3)]), 6, 80, [(.int .i64 0), (.str []), (.str []), (.int .i64 0), (.list [] .nil), (.int .i64 0)]⟩ := rfl
theorem tyD33 : tyD 33 = some ⟨(.scal .i64), 1, 8, [(.int .i64 0)]⟩ := rfl
theorem tyD35 : tyD 35 = some ⟨.func, 1, 8, [.nilf]⟩ := rfl
theorem tyD36 : tyD 36 = some ⟨.func, 1, 8, [.nilf]⟩ := rfl
theorem tyD38 : tyD 38 = some ⟨.func, 1, 8, [.nilf]⟩ := rfl
theorem tyD39 : tyD 39 = some ⟨.func, 1, 8, [.nilf]⟩ := rfl
theorem tyD40 : tyD 40 = some ⟨.func, 1, 8, [.nilf]⟩ := rfl
theorem tyD41 : tyD 41 = some ⟨.func, 1, 8, [.nilf]⟩ := rfl
theorem tyD42 : tyD 42 = some ⟨(.ptr 106), 1, 8, [.nilp]⟩ := rfl
theorem tyD44 : tyD 44 = some ⟨.func, 1, 8, [.nilf]⟩ := rfl
theorem tyD45 : tyD 45 = some ⟨(.slice 72), 1, 24, [(.list [] .nil)]⟩ := rfl
theorem tyD47 : tyD 47 = some ⟨.func, 1, 8, [.nilf]⟩ := rfl
theorem tyD48 : tyD 48 = some ⟨(.ptr 52), 1, 8, [.nilp]⟩ := rfl
theorem tyD49 : tyD 49 = some ⟨(.ptr 77), 1, 8, [.nilp]⟩ := rfl
theorem tyD50 : tyD 50 = some ⟨.func, 1, 8, [.nilf]⟩ := rfl
theorem tyD51 : tyD 51 = some ⟨(.struct [(0, 49), (1, 33), (2, 3), (3, 3), (4, 27)]), 9, 128, [.nilp, (.int .i64 0), (.int .i64 0), (.int .i64 0), (.str []), (.int .i64 0), (.list [] .nil), (.list [] .nil), (.list [] .nil)]⟩ := rfl
theorem tyD52 : tyD 52 = some ⟨(.struct [(0, 49), (1, 33), (2, 3), (3, 3), (4, 27)]), 9, 128, [.nilp, (.int .i64 0), (.int .i64 0), (.int .i64 0), (.str []), (.int .i64 0), (.list [] .nil), (.list [] .nil), (.list [] .nil)]⟩ := rfl
theorem tyD53 : tyD 53 = some ⟨.func, 1, 8, [.nilf]⟩ := rfl
theorem tyD54 : tyD 54 = some ⟨.func, 1, 8, [.nilf]⟩ := rfl
theorem tyD55 : tyD 55 = some ⟨.func, 1, 8, [.nilf]⟩ := rfl
theorem tyD56 : tyD 56 = some ⟨(.map 9 3), 1, 8, [.nilm]⟩ := rfl
theorem tyD57 : tyD 57 = some ⟨(.struct [(0, 56), (1, 56)]), 2, 16, [.nilm, .nilm]⟩ := rfl
theorem tyD58 : tyD 58 = some ⟨(.struct [(0, 56), (1, 56)]), 2, 16, [.nilm, .nilm]⟩ := rfl
theorem tyD59 : tyD 59 = some ⟨.func, 1, 8, [.nilf]⟩ := rfl
theorem tyD60 : tyD 60 = some ⟨.func, 1, 8, [.nilf]⟩ := rfl
theorem tyD61 : tyD 61 = some ⟨.func, 1, 8, [.nilf]⟩ := rfl
theorem tyD63 : tyD 63 = some ⟨.func, 1, 8, [.nilf]⟩ := rfl
theorem tyD65 : tyD 65 = some ⟨.func, 1, 8, [.nilf]⟩ := rfl
theorem tyD66 : tyD 66 = some ⟨.func, 1, 8, [.nilf]⟩ := rfl
theorem tyD68 : tyD 68 = some ⟨.func, 1, 8, [.nilf]⟩ := rfl
theorem tyD69 : tyD 69 = some ⟨.func, 1, 8, [.nilf]⟩ := rfl
theorem tyD70 : tyD 70 = some ⟨(.ptr 74), 1, 8, [.nilp]⟩ := rfl
theorem tyD71 : tyD 71 = some ⟨(.struct [(0, 3), (1, 9), (2, 3), (3, 3)]), 4, 40, [(.int .i64 0), (.str []), (.int .i64 0), (.int .i64 0)]⟩ := rfl
theorem tyD72 : tyD 72 = some ⟨(.struct [(0, 3), (1, 9), (2, 3), (3, 3)]), 4, 40, [(.int .i64 0), (.str []), (.int .i64 0), (.int .i64 0)]⟩ := rfl
theorem tyD73 : tyD 73 = some ⟨(.struct [(0, 9), (1, 3), (2, 3), (3, 72), (7, 33)]), 8, 80, [(.str []), (.int .i64 0), (.int .i64 0), (.int .i64 0), (.str []), (.int .i64 0), (.int .i64 0), (.int .i64 0)]⟩ := rfl
theorem tyD74 : tyD 74 = some ⟨(.struct [(0, 9), (1, 3), (2, 3), (3, 72), (7, 33)]), 8, 80, [(.str []), (.int .i64 0), (.int .i64 0), (.int .i64 0), (.str []), (.int .i64 0), (.int .i64 0), (.int .i64 0)]⟩ := rfl
theorem tyD75 : tyD 75 = some ⟨.func, 1, 8, [.nilf]⟩ := rfl
theorem tyD76 : tyD 76 = some ⟨(.struct [(0, 45), (1, 3)]), 2, 32, [(.list [] .nil), (.int .i64 0)]⟩ := rfl
theorem tyD77 : tyD 77 = some ⟨(.struct [(0, 45), (1, 3)]), 2, 32, [(.list [] .nil), (.int .i64 0)]⟩ := rfl
theorem tyD78 : tyD 78 = some ⟨.func, 1, 8, [.nilf]⟩ := rfl
theorem tyD79 : tyD 79 = some ⟨.func, 1, 8, [.nilf]⟩ := rfl
theorem tyD80 : tyD 80 = some ⟨.func, 1, 8, [.nilf]⟩ := rfl
theorem tyD81 : tyD 81 = some ⟨.func, 1, 8, [.nilf]⟩ := rfl
theorem tyD82 : tyD 82 = some ⟨.func, 1, 8, [.nilf]⟩ := rfl
theorem tyD83 : tyD 83 = some ⟨.func, 1, 8, [.nilf]⟩ := rfl
theorem tyD84 : tyD 84 = some ⟨.func, 1, 8, [.nilf]⟩ := rfl
theorem tyD85 : tyD 85 = some ⟨.func, 1, 8, [.nilf]⟩ := rfl
theorem tyD86 : tyD 86 = some ⟨.func, 1, 8, [.nilf]⟩ := rfl
theorem tyD87 : tyD 87 = some ⟨(.slice 89), 1, 24, [(.list [] .nil)]⟩ := rfl
theorem tyD88 : tyD 88 = some ⟨(.struct [(0, 32), (6, 87)]), 7, 104, [(.int .i64 0), (.str []), (.str []), (.int .i64 0), (.list [] .nil), (.int .i64 0), (.list [] .nil)]⟩ := rfl
theorem tyD89 : tyD 89 = some ⟨(.struct [(0, 32), (6, 87)]), 7, 104, [(.int .i64 0), (.str []), (.str []), (.int .i64 0), (.list [] .nil), (.int .i64 0), (.list [] .nil)]⟩ := rfl
theorem tyD90 : tyD 90 = some ⟨.func, 1, 8, [.nilf]⟩ := rfl
theorem tyD91 : tyD 91 = some ⟨.func, 1, 8, [.nilf]⟩ := rfl
theorem tyD92 : tyD 92 = some ⟨.func, 1, 8, [.nilf]⟩ := rfl
theorem tyD93 : tyD 93 = some ⟨.func, 1, 8, [.nilf]⟩ := rfl
theorem tyD94 : tyD 94 = some ⟨.func, 1, 8, [.nilf]⟩ := rfl
theorem tyD95 : tyD 95 = some ⟨(.slice 147), 1, 24, [(.list [] .nil)]⟩ := rfl
theorem tyD96 : tyD 96 = some ⟨(.struct [(0, 3), (1, 3), (2, 28), (3, 95)]), 4, 64, [(.int .i64 0), (.int .i64 0), (.list [] .nil), (.list [] .nil)]⟩ := rfl
theorem tyD97 : tyD 97 = some ⟨(.struct [(0, 3), (1, 3), (2, 28), (3, 95)]), 4, 64, [(.int .i64 0), (.int .i64 0), (.list [] .nil), (.list [] .nil)]⟩ := rfl
theorem tyD99 : tyD 99 = some ⟨.func, 1, 8, [.nilf]⟩ := rfl
theorem tyD100 : tyD 100 = some ⟨.func, 1, 8, [.nilf]⟩ := rfl
theorem tyD101 : tyD 101 = some ⟨(.slice 4), 1, 24, [(.list [] .nil)]⟩ := rfl
theorem tyD103 : tyD 103 = some ⟨.func, 1, 8, [.nilf]⟩ := rfl
theorem tyD104 : tyD 104 = some ⟨(.map 3 3), 1, 8, [.nilm]⟩ := rfl
theorem tyD105 : tyD 105 = some ⟨(.struct [(0, 27), (5, 97), (9, 101), (10, 104)]), 11, 192, [(.str []), (.int .i64 0), (.list [] .nil), (.list [] .nil), (.list [] .nil), (.int .i64 0), (.int .i64 0), (.list [] .nil), (.list [] .nil), (.list [] .nil), .nilm]⟩ := rfl
theorem tyD106 : tyD 106 = some ⟨(.struct [(0, 27), (5, 97), (9, 101), (10, 104)]), 11, 192, [(.str []), (.int .i64 0), (.list [] .nil), (.list [] .nil), (.list [] .nil), (.int .i64 0), (.int .i64 0), (.list [] .nil), (.list [] .nil), (.list [] .nil), .nilm]⟩ := rfl
theorem tyD108 : tyD 108 = some ⟨.func, 1, 8, [.nilf]⟩ := rfl
theorem tyD109 : tyD 109 = some ⟨.func, 1, 8, [.nilf]⟩ := rfl
theorem tyD111 : tyD 111 = some ⟨.func, 1, 8, [.nilf]⟩ := rfl
theorem tyD112 : tyD 112 = some ⟨.func, 1, 8, [.nilf]⟩ := rfl
theorem tyD113 : tyD 113 = some ⟨.func, 1, 8, [.nilf]⟩ := rfl
theorem tyD114 : tyD 114 = some ⟨.func, 1, 8, [.nilf]⟩ := rfl
theorem tyD115 : tyD 115 = some ⟨.func, 1, 8, [.nilf]⟩ := rfl
theorem tyD116 : tyD 116 = some ⟨.func, 1, 8, [.nilf]⟩ := rfl
theorem tyD117 : tyD 117 = some ⟨(.map 9 4), 1, 8, [.nilm]⟩ := rfl
theorem tyD118 : tyD 118 = some ⟨.func, 1, 8, [.nilf]⟩ := rfl
theorem tyD119 : tyD 119 = some ⟨.func, 1, 8, [.nilf]⟩ := rfl
theorem tyD120 : tyD 120 = some ⟨.func, 1, 8, [.nilf]⟩ := rfl
theorem tyD121 : tyD 121 = some ⟨.func, 1, 8, [.nilf]⟩ := rfl
theorem tyD122 : tyD 122 = some ⟨(.ptr 126), 1, 8, [.nilp]⟩ := rfl
theorem tyD124 : tyD 124 = some ⟨.func, 1, 8, [.nilf]⟩ := rfl
theorem tyD125 : tyD 125 = some ⟨(.struct [(0, 27), (5, 28), (6, 97)]), 10, 184, [(.str []), (.int .i64 0), (.list [] .nil), (.list [] .nil), (.list [] .nil), (.list [] .nil), (.int .i64 0), (.int .i64 0), (.list [] .nil), (.list [] .nil)]⟩ := rfl
theorem tyD126 : tyD 126 = some ⟨(.struct [(0, 27), (5, 28), (6, 97)]), 10, 184, [(.str []), (.int .i64 0), (.list [] .nil), (.list [] .nil), (.list [] .nil), (.list [] .nil), (.int .i64 0), (.int .i64 0), (.list [] .nil), (.list [] .nil)]⟩ := rfl
theorem tyD127 : tyD 127 = some ⟨.func, 1, 8, [.nilf]⟩ := rfl
theorem tyD128 : tyD 128 = some ⟨(.slice 28), 1, 24, [(.list [] .nil)]⟩ := rfl
theorem tyD129 : tyD 129 = some ⟨(.slice 28), 1, 24, [(.list [] .nil)]⟩ := rfl
theorem tyD130 : tyD 130 = some ⟨.func, 1, 8, [.nilf]⟩ := rfl
theorem tyD131 : tyD 131 = some ⟨.func, 1, 8, [.nilf]⟩ := rfl
theorem tyD132 : tyD 132 = some ⟨.func, 1, 8, [.nilf]⟩ := rfl
theorem tyD133 : tyD 133 = some ⟨(.struct [(0, 4), (1, 3)]), 2, 16, [(.bool false), (.int .i64 0)]⟩ := rfl
theorem tyD134 : tyD 134 = some ⟨(.struct [(0, 4), (1, 3)]), 2, 16, [(.bool false), (.int .i64 0)]⟩ := rfl
theorem tyD135 : tyD 135 = some ⟨.func, 1, 8, [.nilf]⟩ := rfl
theorem tyD136 : tyD 136 = some ⟨.func, 1, 8, [.nilf]⟩ := rfl
theorem tyD137 : tyD 137 = some ⟨.func, 1, 8, [.nilf]⟩ := rfl
theorem tyD138 : tyD 138 = some ⟨.func, 1, 8, [.nilf]⟩ := rfl
theorem tyD139 : tyD 139 = some ⟨.func, 1, 8, [.nilf]⟩ := rfl
theorem tyD140 : tyD 140 = some ⟨.func, 1, 8, [.nilf]⟩ := rfl
theorem tyD141 : tyD 141 = some ⟨.func, 1, 8, [.nilf]⟩ := rfl
theorem tyD142 : tyD 142 = some ⟨(.slice 134), 1, 24, [(.list [] .nil)]⟩ := rfl
theorem tyD143 : tyD 143 = some ⟨.func, 1, 8, [.nilf]⟩ := rfl
theorem tyD144 : tyD 144 = some ⟨.func, 1, 8, [.nilf]⟩ := rfl
theorem tyD145 : tyD 145 = some ⟨.func, 1, 8, [.nilf]⟩ := rfl
theorem tyD146 : tyD 146 = some ⟨(.struct [(0, 3), (1, 142)]), 2, 32, [(.int .i64 0), (.list [] .nil)]⟩ := rfl
theorem tyD147 : tyD 147 = some ⟨(.struct [(0, 3), (1, 142)]), 2, 32, [(.int .i64 0), (.list [] .nil)]⟩ := rfl
theorem tyD148 : tyD 148 = some ⟨.func, 1, 8, [.nilf]⟩ := rfl
theorem tyD149 : tyD 149 = some ⟨.func, 1, 8, [.nilf]⟩ := rfl
theorem tyD150 : tyD 150 = some ⟨.func, 1, 8, [.nilf]⟩ := rfl
theorem tyD151 : tyD 151 = some ⟨.func, 1, 8, [.nilf]⟩ := rfl
theorem tyD152 : tyD 152 = some ⟨(.map 3 28), 1, 8, [.nilm]⟩ := rfl
theorem tyD153 : tyD 153 = some ⟨(.struct [(0, 97), (4, 152)]), 5, 72, [(.int .i64 0), (.int .i64 0), (.list [] .nil), (.list [] .nil), .nilm]⟩ := rfl
theorem tyD154 : tyD 154 = some ⟨(.struct [(0, 97), (4, 152)]), 5, 72, [(.int .i64 0), (.int .i64 0), (.list [] .nil), (.list [] .nil), .nilm]⟩ := rfl
theorem tyD155 : tyD 155 = some ⟨.func, 1, 8, [.nilf]⟩ := rfl
theorem tyD156 : tyD 156 = some ⟨.func, 1, 8, [.nilf]⟩ := rfl
theorem tyD158 : tyD 158 = some ⟨.func, 1, 8, [.nilf]⟩ := rfl
theorem tyD159 : tyD 159 = some ⟨.func, 1, 8, [.nilf]⟩ := rfl
theorem tyD160 : tyD 160 = some ⟨.func, 1, 8, [.nilf]⟩ := rfl
theorem tyD161 : tyD 161 = some ⟨(.array 4 9), 4, 64, [(.str []), (.str []), (.str []), (.str [])]⟩ := rfl
theorem tyD162 : tyD 162 = some ⟨.func, 1, 8, [.nilf]⟩ := rfl
theorem tyD163 : tyD 163 = some ⟨.func, 1, 8, [.nilf]⟩ := rfl
theorem tyD164 : tyD 164 = some ⟨.func, 1, 8, [.nilf]⟩ := rfl
theorem tyD165 : tyD 165 = some ⟨.func, 1, 8, [.nilf]⟩ := rfl
theorem tyD166 : tyD 166 = some ⟨.func, 1, 8, [.nilf]⟩ := rfl
theorem tyD167 : tyD 167 = some ⟨(.slice 169), 1, 24, [(.list [] .nil)]⟩ := rfl
theorem tyD168 : tyD 168 = some ⟨(.struct [(0, 3), (1, 3)]), 2, 16, [(.int .i64 0), (.int .i64 0)]⟩ := rfl
theorem tyD169 : tyD 169 = some ⟨(.struct [(0, 3), (1, 3)]), 2, 16, [(.int .i64 0), (.int .i64 0)]⟩ := rfl
theorem tyD170 : tyD 170 = some ⟨.func, 1, 8, [.nilf]⟩ := rfl
theorem tyD171 : tyD 171 = some ⟨.func, 1, 8, [.nilf]⟩ := rfl
theorem tyD172 : tyD 172 = some ⟨.func, 1, 8, [.nilf]⟩ := rfl
theorem tyD173 : tyD 173 = some ⟨.func, 1, 8, [.nilf]⟩ := rfl
theorem tyD174 : tyD 174 = some ⟨.func, 1, 8, [.nilf]⟩ := rfl
theorem tyD175 : tyD 175 = some ⟨.func, 1, 8, [.nilf]⟩ := rfl
theorem tyD176 : tyD 176 = some ⟨.func, 1, 8, [.nilf]⟩ := rfl
theorem tyD177 : tyD 177 = some ⟨.func, 1, 8, [.nilf]⟩ := rfl
theorem tyD178 : tyD 178 = some ⟨(.struct [(0, 17), (1, 17), (2, 17), (3, 9)]), 4, 40, [.nilp, .nilp, .nilp, (.str [])]⟩ := rfl
theorem tyD179 : tyD 179 = some ⟨(.struct [(0, 17), (1, 17), (2, 17), (3, 9)]), 4, 40, [.nilp, .nilp, .nilp, (.str [])]⟩ := rfl
theorem tyD180 : tyD 180 = some ⟨(.array 0 16), 0, 0, []⟩ := rfl
theorem tyD181 : tyD 181 = some ⟨(.struct [(0, 180)]), 0, 0, []⟩ := rfl
theorem tyD182 : tyD 182 = some ⟨(.struct [(0, 180)]), 0, 0, []⟩ := rfl
theorem tyD183 : tyD 183 = some ⟨.func, 1, 8, [.nilf]⟩ := rfl
theorem tyD184 : tyD 184 = some ⟨(.scal .u32), 1, 4, [(.int .u32 0)]⟩ := rfl
theorem tyD185 : tyD 185 = some ⟨(.scal .u8), 1, 1, [(.int .u8 0)]⟩ := rfl
theorem tyD186 : tyD 186 = some ⟨(.scal .u8), 1, 1, [(.int .u8 0)]⟩ := rfl
theorem tyD187 : tyD 187 = some ⟨.func, 1, 8, [.nilf]⟩ := rfl
theorem tyD188 : tyD 188 = some ⟨(.ptr 5), 1, 8, [.nilp]⟩ := rfl
theorem tyD189 : tyD 189 = some ⟨(.scal .i32), 1, 4, [(.int .i32 0)]⟩ := rfl
theorem tyD190 : tyD 190 = some ⟨(.scal .i32), 1, 4, [(.int .i32 0)]⟩ := rfl
theorem tyD191 : tyD 191 = some ⟨(.struct [(0, 12), (1, 12), (2, 184), (3, 185), (4, 5), (5, 5), (6, 186), (7, 187), (8, 188), (9, 189), (10, 190)]), 11, 48, [(.int .u64 0), (.int .u64 0), (.int .u32 0), (.int .u8 0), (.int .u8 0), (.int .u8 0), (.int .u8 0), .nilf, .nilp, (.int .i32 0), (.int .i32 0)]⟩ := rfl
theorem tyD192 : tyD 192 = some ⟨(.struct [(0, 12), (1, 12), (2, 184), (3, 185), (4, 5), (5, 5), (6, 186), (7, 187), (8, 188), (9, 189), (10, 190)]), 11, 48, [(.int .u64 0), (.int .u64 0), (.int .u32 0), (.int .u8 0), (.int .u8 0), (.int .u8 0), (.int .u8 0), .nilf, .nilp, (.int .i32 0), (.int .i32 0)]⟩ := rfl

noncomputable def fnOf (P : Program) (f : FuncId) : Option Func := match P.funcs[f]? with
  | some fn => if fn.body.isSome = true ∧ (fn.name == "runtime.NumGoroutine") = false then some fn else none
  | none => none
def rowsT : FuncId → Nat → Bool
  | 21, _ => true
  | 22, _ => true
  | 41, _ => true
  | _, _ => false
def extT : FuncId → Option (List AV → Option AV)
  | 115 => some xIndexByte
  | _ => none
def globT : Nat → Option (List AV)
  | 0 => some [.str [103, 114, 97, 109, 109, 97, 114], .str [108, 111, 111, 107], .str [115, 121, 110, 99], .str [116, 111, 107, 101, 110]]
  | _ => none
noncomputable def cx : Ctx := { P := Tryz.prog, D := tyD, G := globT, rows := rowsT, F := fnOf Tryz.prog, eqs := fun _ => false, ext := extT }
theorem cx_ok : COk cx := by
  constructor
  · kernel_rfl
  · exact tyD_ok
  · intro t h; simp [cx] at h
  · intro f h hf
    simp only [cx] at hf
    unfold extT at hf
    split at hf
    · simp only [Option.some.injEq] at hf; subst hf
      exact xIndexByte_ok (fn := Tryz.f115) Tryz.func115 (by kernel_rfl) (by kernel_rfl) (by kernel_rfl) (by kernel_rfl)
    · simp at hf
  · intro f fn h
    simp only [cx, fnOf] at h
    split at h
    · rename_i fn' hf
      split at h
      · rename_i hc
        simp only [Option.some.injEq] at h; subst h; exact ⟨hf, hc.1, hc.2⟩
      · simp at h
    · simp at h
theorem cx_memo : MemoOk cx := memo_none fun _ _ => rfl
theorem cx_D (t : TypeId) : cx.D t = tyD t := rfl

end Go.W
