/- The table of types of this program, as the logic 'Sym' takes it. -/
import Derived.Test.YtbdpnkcpglpfbaaProg
import Derived.Test.YtbdpnkcpglpfbaaSymV
import Derived.KernelRfl
namespace Go.Proofs.Try
open Go Go.Sym
@[reducible] def tbl : Tbl := [
  (2, ⟨.int .i64, 1, 8, some [(.int .i64 0)], true, false⟩),
  (3, ⟨.int .i64, 1, 8, some [(.int .i64 0)], true, false⟩),
  (4, ⟨.bool, 1, 1, some [(.bool false)], true, false⟩),
  (5, ⟨.int .u8, 1, 1, some [(.int .u8 0)], true, false⟩),
  (9, ⟨.str, 1, 16, some [(.string ⟨⟨[]⟩⟩)], true, false⟩),
  (12, ⟨.int .u64, 1, 8, some [(.int .u64 0)], true, false⟩),
  (20, ⟨.iface, 1, 16, some [.nilIface], true, false⟩),
  (21, ⟨.int .i32, 1, 4, some [(.int .i32 0)], true, false⟩),
  (22, ⟨.slice 45, 1, 24, some [(.slice none 0 0)], true, false⟩),
  (23, ⟨.struct [(0, 1, 22), (1, 1, 3), (2, 1, 4)], 3, 40, some [(.slice none 0 0), (.int .i64 0), (.bool false)], true, false⟩),
  (24, ⟨.struct [(0, 1, 22), (1, 1, 3), (2, 1, 4)], 3, 40, some [(.slice none 0 0), (.int .i64 0), (.bool false)], true, false⟩),
  (25, ⟨.slice 3, 1, 24, some [(.slice none 0 0)], true, false⟩),
  (32, ⟨.slice 34, 1, 24, some [(.slice none 0 0)], true, false⟩),
  (33, ⟨.struct [(0, 1, 3), (1, 1, 3), (2, 1, 9), (3, 1, 9), (4, 1, 9), (5, 1, 25)], 6, 88, some [(.int .i64 0), (.int .i64 0), (.string ⟨⟨[]⟩⟩), (.string ⟨⟨[]⟩⟩), (.string ⟨⟨[]⟩⟩), (.slice none 0 0)], true, false⟩),
  (34, ⟨.struct [(0, 1, 3), (1, 1, 3), (2, 1, 9), (3, 1, 9), (4, 1, 9), (5, 1, 25)], 6, 88, some [(.int .i64 0), (.int .i64 0), (.string ⟨⟨[]⟩⟩), (.string ⟨⟨[]⟩⟩), (.string ⟨⟨[]⟩⟩), (.slice none 0 0)], true, false⟩),
  (35, ⟨.int .i64, 1, 8, some [(.int .i64 0)], true, false⟩),
  (41, ⟨.slice 9, 1, 24, some [(.slice none 0 0)], true, false⟩),
  (44, ⟨.struct [(0, 1, 9), (1, 1, 9), (2, 1, 3)], 3, 40, some [(.string ⟨⟨[]⟩⟩), (.string ⟨⟨[]⟩⟩), (.int .i64 0)], true, false⟩),
  (45, ⟨.struct [(0, 1, 9), (1, 1, 9), (2, 1, 3)], 3, 40, some [(.string ⟨⟨[]⟩⟩), (.string ⟨⟨[]⟩⟩), (.int .i64 0)], true, false⟩),
  (47, ⟨.slice 5, 1, 24, some [(.slice none 0 0)], true, false⟩),
  (67, ⟨.int .u64, 1, 8, some [(.int .u64 0)], true, false⟩),
  (78, ⟨.int .u32, 1, 4, some [(.int .u32 0)], true, false⟩),
  (82, ⟨.ptr 5, 1, 8, some [(.pointer none)], true, false⟩)]
theorem tblEq : mkTbl Try.prog [2, 3, 4, 5, 9, 12, 20, 21, 22, 23, 24, 25, 32, 33, 34, 35, 41, 44, 45, 47, 67, 78, 82] = tbl := by kernel_rfl
theorem tblOk : TOk Try.prog tbl := tblEq ▸ mkTbl_ok Try.prog _
theorem mixed : Try.prog.follows .mixedOrders = true := by kernel_rfl
end Go.Proofs.Try
