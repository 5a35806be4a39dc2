/- Closed facts on the loaded program's types and functions, for the abstract layer. Written by genseat.py. -/
import Derived.Test.YtaeobokijndboaaDoorAbs12
import Derived.Test.YtaeobokijndboaaDoorProg
import Derived.KernelRfl
namespace Go.Proofs.YtaeobokijndboaaDoor
open Go Go.Proofs.Abs
@[go_sem] theorem Tryd.tkind2 : tkind Tryd.prog 2 = some none := by kernel_rfl
@[go_sem] theorem Tryd.tsize2 : tsize Tryd.prog 2 = some 1 := by kernel_rfl
@[go_sem] theorem Tryd.tplain2 : tplain Tryd.prog 2 = true := by kernel_rfl
@[go_sem] theorem Tryd.tint2 : tint Tryd.prog 2 = some .i64 := by kernel_rfl
@[go_sem] theorem Tryd.tzero2 : tzero Tryd.prog 2 = some [.lit (.int .i64 0)] := by kernel_rfl
@[go_sem] theorem Tryd.tzeroV2 : tzeroV Tryd.prog 2 = some (.lit (.int .i64 0)) := by kernel_rfl
@[go_sem] theorem Tryd.tkind3 : tkind Tryd.prog 3 = some none := by kernel_rfl
@[go_sem] theorem Tryd.tsize3 : tsize Tryd.prog 3 = some 1 := by kernel_rfl
@[go_sem] theorem Tryd.tplain3 : tplain Tryd.prog 3 = true := by kernel_rfl
@[go_sem] theorem Tryd.tint3 : tint Tryd.prog 3 = some .i64 := by kernel_rfl
@[go_sem] theorem Tryd.tzero3 : tzero Tryd.prog 3 = some [.lit (.int .i64 0)] := by kernel_rfl
@[go_sem] theorem Tryd.tzeroV3 : tzeroV Tryd.prog 3 = some (.lit (.int .i64 0)) := by kernel_rfl
@[go_sem] theorem Tryd.tkind4 : tkind Tryd.prog 4 = some none := by kernel_rfl
@[go_sem] theorem Tryd.tsize4 : tsize Tryd.prog 4 = some 1 := by kernel_rfl
@[go_sem] theorem Tryd.tplain4 : tplain Tryd.prog 4 = true := by kernel_rfl
@[go_sem] theorem Tryd.tbool4 : Tryd.prog.underlying 4 = some .bool := by kernel_rfl
@[go_sem] theorem Tryd.tzero4 : tzero Tryd.prog 4 = some [.lit (.bool false)] := by kernel_rfl
@[go_sem] theorem Tryd.tzeroV4 : tzeroV Tryd.prog 4 = some (.lit (.bool false)) := by kernel_rfl
@[go_sem] theorem Tryd.tkind5 : tkind Tryd.prog 5 = some none := by kernel_rfl
@[go_sem] theorem Tryd.tsize5 : tsize Tryd.prog 5 = some 1 := by kernel_rfl
@[go_sem] theorem Tryd.tplain5 : tplain Tryd.prog 5 = true := by kernel_rfl
@[go_sem] theorem Tryd.tint5 : tint Tryd.prog 5 = some .u8 := by kernel_rfl
@[go_sem] theorem Tryd.tzero5 : tzero Tryd.prog 5 = some [.lit (.int .u8 0)] := by kernel_rfl
@[go_sem] theorem Tryd.tzeroV5 : tzeroV Tryd.prog 5 = some (.lit (.int .u8 0)) := by kernel_rfl
@[go_sem] theorem Tryd.tkind9 : tkind Tryd.prog 9 = some none := by kernel_rfl
@[go_sem] theorem Tryd.tsize9 : tsize Tryd.prog 9 = some 1 := by kernel_rfl
@[go_sem] theorem Tryd.tplain9 : tplain Tryd.prog 9 = true := by kernel_rfl
@[go_sem] theorem Tryd.tstr9 : Tryd.prog.underlying 9 = some .string := by kernel_rfl
@[go_sem] theorem Tryd.tindex9 : tindex Tryd.prog 9 = .string := by kernel_rfl
@[go_sem] theorem Tryd.tzero9 : tzero Tryd.prog 9 = some [.lit (.string ⟨#[]⟩)] := by kernel_rfl
@[go_sem] theorem Tryd.tzeroV9 : tzeroV Tryd.prog 9 = some (.lit (.string ⟨#[]⟩)) := by kernel_rfl
@[go_sem] theorem Tryd.tkind20 : tkind Tryd.prog 20 = some none := by kernel_rfl
@[go_sem] theorem Tryd.tsize20 : tsize Tryd.prog 20 = some 1 := by kernel_rfl
@[go_sem] theorem Tryd.tiface20 : tiface Tryd.prog 20 = true := by kernel_rfl
@[go_sem] theorem Tryd.tzero20 : tzero Tryd.prog 20 = some [.lit .nilIface] := by kernel_rfl
@[go_sem] theorem Tryd.tzeroV20 : tzeroV Tryd.prog 20 = some (.lit .nilIface) := by kernel_rfl
@[go_sem] theorem Tryd.tkind21 : tkind Tryd.prog 21 = some none := by kernel_rfl
@[go_sem] theorem Tryd.tsize21 : tsize Tryd.prog 21 = some 1 := by kernel_rfl
@[go_sem] theorem Tryd.tplain21 : tplain Tryd.prog 21 = true := by kernel_rfl
@[go_sem] theorem Tryd.tint21 : tint Tryd.prog 21 = some .i32 := by kernel_rfl
@[go_sem] theorem Tryd.tzero21 : tzero Tryd.prog 21 = some [.lit (.int .i32 0)] := by kernel_rfl
@[go_sem] theorem Tryd.tzeroV21 : tzeroV Tryd.prog 21 = some (.lit (.int .i32 0)) := by kernel_rfl
@[go_sem] theorem Tryd.tkind22 : tkind Tryd.prog 22 = some none := by kernel_rfl
@[go_sem] theorem Tryd.tsize22 : tsize Tryd.prog 22 = some 1 := by kernel_rfl
@[go_sem] theorem Tryd.tplain22 : tplain Tryd.prog 22 = true := by kernel_rfl
@[go_sem] theorem Tryd.tzero22 : tzero Tryd.prog 22 = some [.sl 0 [] (.own none)] := by kernel_rfl
@[go_sem] theorem Tryd.tzeroV22 : tzeroV Tryd.prog 22 = some (.sl 0 [] (.own none)) := by kernel_rfl
@[go_sem] theorem Tryd.tindex22 : tindex Tryd.prog 22 = .slice 3 := by kernel_rfl
@[go_sem] theorem Tryd.tslice22 : tsliceB Tryd.prog 22 = true := by kernel_rfl
@[go_sem] theorem Tryd.telem22 : telem Tryd.prog 22 = some (24, 3, 40, [.lit (.int .i64 0), .lit (.int .i64 0), .sl 0 [] (.own none)]) := by kernel_rfl
theorem Tryd.isSlice22 : ∃ e, Tryd.prog.underlying 22 = some (.slice e) := ⟨24, by kernel_rfl⟩
@[go_sem] theorem Tryd.tkind24 : tkind Tryd.prog 24 = some (some 3) := by kernel_rfl
@[go_sem] theorem Tryd.tsize24 : tsize Tryd.prog 24 = some 3 := by kernel_rfl
@[go_sem] theorem Tryd.tplain24 : tplain Tryd.prog 24 = true := by kernel_rfl
@[go_sem] theorem Tryd.tzero24 : tzero Tryd.prog 24 = some [.lit (.int .i64 0), .lit (.int .i64 0), .sl 0 [] (.own none)] := by kernel_rfl
@[go_sem] theorem Tryd.tzeroV24 : tzeroV Tryd.prog 24 = some (.agg [.lit (.int .i64 0), .lit (.int .i64 0), .sl 0 [] (.own none)]) := by kernel_rfl
@[go_sem] theorem Tryd.tstruct24 : tstruct Tryd.prog 24 = true := by kernel_rfl
@[go_sem] theorem Tryd.tfield24_0 : tfield Tryd.prog 24 0 = some (0, 3) := by kernel_rfl
@[go_sem] theorem Tryd.tfield24_1 : tfield Tryd.prog 24 1 = some (1, 3) := by kernel_rfl
@[go_sem] theorem Tryd.tfield24_2 : tfield Tryd.prog 24 2 = some (2, 22) := by kernel_rfl
@[go_sem] theorem Tryd.tkind28 : tkind Tryd.prog 28 = some none := by kernel_rfl
@[go_sem] theorem Tryd.tsize28 : tsize Tryd.prog 28 = some 1 := by kernel_rfl
@[go_sem] theorem Tryd.tplain28 : tplain Tryd.prog 28 = true := by kernel_rfl
@[go_sem] theorem Tryd.tint28 : tint Tryd.prog 28 = some .i64 := by kernel_rfl
@[go_sem] theorem Tryd.tzero28 : tzero Tryd.prog 28 = some [.lit (.int .i64 0)] := by kernel_rfl
@[go_sem] theorem Tryd.tzeroV28 : tzeroV Tryd.prog 28 = some (.lit (.int .i64 0)) := by kernel_rfl
@[go_sem] theorem Tryd.tkind37 : tkind Tryd.prog 37 = some none := by kernel_rfl
@[go_sem] theorem Tryd.tsize37 : tsize Tryd.prog 37 = some 1 := by kernel_rfl
@[go_sem] theorem Tryd.tplain37 : tplain Tryd.prog 37 = true := by kernel_rfl
@[go_sem] theorem Tryd.tzero37 : tzero Tryd.prog 37 = some [.lit (.pointer none)] := by kernel_rfl
@[go_sem] theorem Tryd.tzeroV37 : tzeroV Tryd.prog 37 = some (.lit (.pointer none)) := by kernel_rfl
@[go_sem] theorem Tryd.tkind39 : tkind Tryd.prog 39 = some none := by kernel_rfl
@[go_sem] theorem Tryd.tsize39 : tsize Tryd.prog 39 = some 1 := by kernel_rfl
@[go_sem] theorem Tryd.tplain39 : tplain Tryd.prog 39 = true := by kernel_rfl
@[go_sem] theorem Tryd.tzero39 : tzero Tryd.prog 39 = some [.lit .nilFunc] := by kernel_rfl
@[go_sem] theorem Tryd.tzeroV39 : tzeroV Tryd.prog 39 = some (.lit .nilFunc) := by kernel_rfl
@[go_sem] theorem Tryd.tkind43 : tkind Tryd.prog 43 = some none := by kernel_rfl
@[go_sem] theorem Tryd.tsize43 : tsize Tryd.prog 43 = some 1 := by kernel_rfl
@[go_sem] theorem Tryd.tplain43 : tplain Tryd.prog 43 = true := by kernel_rfl
@[go_sem] theorem Tryd.tzero43 : tzero Tryd.prog 43 = some [.lit .nilFunc] := by kernel_rfl
@[go_sem] theorem Tryd.tzeroV43 : tzeroV Tryd.prog 43 = some (.lit .nilFunc) := by kernel_rfl
@[go_sem] theorem Tryd.tkind45 : tkind Tryd.prog 45 = some (some 0) := by kernel_rfl
@[go_sem] theorem Tryd.tsize45 : tsize Tryd.prog 45 = some 0 := by kernel_rfl
@[go_sem] theorem Tryd.tplain45 : tplain Tryd.prog 45 = true := by kernel_rfl
@[go_sem] theorem Tryd.tzero45 : tzero Tryd.prog 45 = some [] := by kernel_rfl
@[go_sem] theorem Tryd.tzeroV45 : tzeroV Tryd.prog 45 = some (.agg []) := by kernel_rfl
@[go_sem] theorem Tryd.tstruct45 : tstruct Tryd.prog 45 = true := by kernel_rfl
@[go_sem] theorem Tryd.tkind47 : tkind Tryd.prog 47 = some none := by kernel_rfl
@[go_sem] theorem Tryd.tsize47 : tsize Tryd.prog 47 = some 1 := by kernel_rfl
@[go_sem] theorem Tryd.tplain47 : tplain Tryd.prog 47 = true := by kernel_rfl
@[go_sem] theorem Tryd.tzero47 : tzero Tryd.prog 47 = some [.lit (.pointer none)] := by kernel_rfl
@[go_sem] theorem Tryd.tzeroV47 : tzeroV Tryd.prog 47 = some (.lit (.pointer none)) := by kernel_rfl
@[go_sem] theorem Tryd.tkind49 : tkind Tryd.prog 49 = some (some 1) := by kernel_rfl
@[go_sem] theorem Tryd.tsize49 : tsize Tryd.prog 49 = some 1 := by kernel_rfl
@[go_sem] theorem Tryd.tplain49 : tplain Tryd.prog 49 = true := by kernel_rfl
@[go_sem] theorem Tryd.tzero49 : tzero Tryd.prog 49 = some [.lit (.string ⟨#[]⟩)] := by kernel_rfl
@[go_sem] theorem Tryd.tzeroV49 : tzeroV Tryd.prog 49 = some (.agg [.lit (.string ⟨#[]⟩)]) := by kernel_rfl
@[go_sem] theorem Tryd.tstruct49 : tstruct Tryd.prog 49 = true := by kernel_rfl
@[go_sem] theorem Tryd.tfield49_0 : tfield Tryd.prog 49 0 = some (0, 9) := by kernel_rfl
@[go_sem] theorem Tryd.tkind53 : tkind Tryd.prog 53 = some none := by kernel_rfl
@[go_sem] theorem Tryd.tsize53 : tsize Tryd.prog 53 = some 1 := by kernel_rfl
@[go_sem] theorem Tryd.tplain53 : tplain Tryd.prog 53 = true := by kernel_rfl
@[go_sem] theorem Tryd.tzero53 : tzero Tryd.prog 53 = some [.lit (.pointer none)] := by kernel_rfl
@[go_sem] theorem Tryd.tzeroV53 : tzeroV Tryd.prog 53 = some (.lit (.pointer none)) := by kernel_rfl
@[go_sem] theorem Tryd.tkind59 : tkind Tryd.prog 59 = some (some 2) := by kernel_rfl
@[go_sem] theorem Tryd.tsize59 : tsize Tryd.prog 59 = some 2 := by kernel_rfl
@[go_sem] theorem Tryd.tplain59 : tplain Tryd.prog 59 = true := by kernel_rfl
@[go_sem] theorem Tryd.tzero59 : tzero Tryd.prog 59 = some [.lit (.int .i64 0), .lit (.int .i64 0)] := by kernel_rfl
@[go_sem] theorem Tryd.tzeroV59 : tzeroV Tryd.prog 59 = some (.agg [.lit (.int .i64 0), .lit (.int .i64 0)]) := by kernel_rfl
@[go_sem] theorem Tryd.tstruct59 : tstruct Tryd.prog 59 = true := by kernel_rfl
@[go_sem] theorem Tryd.tfield59_0 : tfield Tryd.prog 59 0 = some (0, 3) := by kernel_rfl
@[go_sem] theorem Tryd.tfield59_1 : tfield Tryd.prog 59 1 = some (1, 3) := by kernel_rfl
@[go_sem] theorem Tryd.tkind60 : tkind Tryd.prog 60 = some (some 16) := by kernel_rfl
@[go_sem] theorem Tryd.tsize60 : tsize Tryd.prog 60 = some 16 := by kernel_rfl
@[go_sem] theorem Tryd.tplain60 : tplain Tryd.prog 60 = true := by kernel_rfl
@[go_sem] theorem Tryd.tzero60 : tzero Tryd.prog 60 = some [.lit (.int .i64 0), .lit (.int .i64 0), .lit (.int .i64 0), .lit (.int .i64 0), .lit (.int .i64 0), .lit (.int .i64 0), .lit (.int .i64 0), .lit (.int .i64 0), .lit (.int .i64 0), .lit (.int .i64 0), .lit (.int .i64 0), .lit (.int .i64 0), .lit (.int .i64 0), .lit (.int .i64 0), .lit (.int .i64 0), .lit (.int .i64 0)] := by kernel_rfl
@[go_sem] theorem Tryd.tzeroV60 : tzeroV Tryd.prog 60 = some (.agg [.lit (.int .i64 0), .lit (.int .i64 0), .lit (.int .i64 0), .lit (.int .i64 0), .lit (.int .i64 0), .lit (.int .i64 0), .lit (.int .i64 0), .lit (.int .i64 0), .lit (.int .i64 0), .lit (.int .i64 0), .lit (.int .i64 0), .lit (.int .i64 0), .lit (.int .i64 0), .lit (.int .i64 0), .lit (.int .i64 0), .lit (.int .i64 0)]) := by kernel_rfl
@[go_sem] theorem Tryd.tindex60 : tindex Tryd.prog 60 = .array 8 2 := by kernel_rfl
@[go_sem] theorem Tryd.tkind65 : tkind Tryd.prog 65 = some (some 256) := by kernel_rfl
@[go_sem] theorem Tryd.tsize65 : tsize Tryd.prog 65 = some 256 := by kernel_rfl
@[go_sem] theorem Tryd.tplain65 : tplain Tryd.prog 65 = true := by kernel_rfl
@[go_sem] theorem Tryd.tindex65 : tindex Tryd.prog 65 = .array 256 1 := by kernel_rfl
@[go_sem] theorem Tryd.tkind69 : tkind Tryd.prog 69 = some none := by kernel_rfl
@[go_sem] theorem Tryd.tsize69 : tsize Tryd.prog 69 = some 1 := by kernel_rfl
@[go_sem] theorem Tryd.tplain69 : tplain Tryd.prog 69 = true := by kernel_rfl
@[go_sem] theorem Tryd.tzero69 : tzero Tryd.prog 69 = some [.lit (.pointer none)] := by kernel_rfl
@[go_sem] theorem Tryd.tzeroV69 : tzeroV Tryd.prog 69 = some (.lit (.pointer none)) := by kernel_rfl
@[go_sem] theorem Tryd.tkind74 : tkind Tryd.prog 74 = some none := by kernel_rfl
@[go_sem] theorem Tryd.tsize74 : tsize Tryd.prog 74 = some 1 := by kernel_rfl
@[go_sem] theorem Tryd.tiface74 : tiface Tryd.prog 74 = true := by kernel_rfl
@[go_sem] theorem Tryd.tzero74 : tzero Tryd.prog 74 = some [.lit .nilIface] := by kernel_rfl
@[go_sem] theorem Tryd.tzeroV74 : tzeroV Tryd.prog 74 = some (.lit .nilIface) := by kernel_rfl
@[go_sem] theorem Tryd.tkind80 : tkind Tryd.prog 80 = some (some 24) := by kernel_rfl
@[go_sem] theorem Tryd.tsize80 : tsize Tryd.prog 80 = some 24 := by kernel_rfl
@[go_sem] theorem Tryd.tplain80 : tplain Tryd.prog 80 = true := by kernel_rfl
@[go_sem] theorem Tryd.tzero80 : tzero Tryd.prog 80 = some [.lit (.int .u8 0), .lit (.int .u8 0), .lit (.int .u8 0), .lit (.int .u8 0), .lit (.int .u8 0), .lit (.int .u8 0), .lit (.int .u8 0), .lit (.int .u8 0), .lit (.int .u8 0), .lit (.int .u8 0), .lit (.int .u8 0), .lit (.int .u8 0), .lit (.int .u8 0), .lit (.int .u8 0), .lit (.int .u8 0), .lit (.int .u8 0), .lit (.int .u8 0), .lit (.int .u8 0), .lit (.int .u8 0), .lit (.int .u8 0), .lit (.int .u8 0), .lit (.int .u8 0), .lit (.int .u8 0), .lit (.int .u8 0)] := by kernel_rfl
@[go_sem] theorem Tryd.tzeroV80 : tzeroV Tryd.prog 80 = some (.agg [.lit (.int .u8 0), .lit (.int .u8 0), .lit (.int .u8 0), .lit (.int .u8 0), .lit (.int .u8 0), .lit (.int .u8 0), .lit (.int .u8 0), .lit (.int .u8 0), .lit (.int .u8 0), .lit (.int .u8 0), .lit (.int .u8 0), .lit (.int .u8 0), .lit (.int .u8 0), .lit (.int .u8 0), .lit (.int .u8 0), .lit (.int .u8 0), .lit (.int .u8 0), .lit (.int .u8 0), .lit (.int .u8 0), .lit (.int .u8 0), .lit (.int .u8 0), .lit (.int .u8 0), .lit (.int .u8 0), .lit (.int .u8 0)]) := by kernel_rfl
@[go_sem] theorem Tryd.tindex80 : tindex Tryd.prog 80 = .array 24 1 := by kernel_rfl
@[go_sem] theorem Tryd.tkind81 : tkind Tryd.prog 81 = some none := by kernel_rfl
@[go_sem] theorem Tryd.tsize81 : tsize Tryd.prog 81 = some 1 := by kernel_rfl
@[go_sem] theorem Tryd.tplain81 : tplain Tryd.prog 81 = true := by kernel_rfl
@[go_sem] theorem Tryd.tint81 : tint Tryd.prog 81 = some .u64 := by kernel_rfl
@[go_sem] theorem Tryd.tzero81 : tzero Tryd.prog 81 = some [.lit (.int .u64 0)] := by kernel_rfl
@[go_sem] theorem Tryd.tzeroV81 : tzeroV Tryd.prog 81 = some (.lit (.int .u64 0)) := by kernel_rfl
@[go_sem] theorem Tryd.tkind84 : tkind Tryd.prog 84 = some none := by kernel_rfl
@[go_sem] theorem Tryd.tsize84 : tsize Tryd.prog 84 = some 1 := by kernel_rfl
@[go_sem] theorem Tryd.tplain84 : tplain Tryd.prog 84 = true := by kernel_rfl
@[go_sem] theorem Tryd.tzero84 : tzero Tryd.prog 84 = some [.sl 0 [] (.own none)] := by kernel_rfl
@[go_sem] theorem Tryd.tzeroV84 : tzeroV Tryd.prog 84 = some (.sl 0 [] (.own none)) := by kernel_rfl
@[go_sem] theorem Tryd.tindex84 : tindex Tryd.prog 84 = .slice 1 := by kernel_rfl
@[go_sem] theorem Tryd.tslice84 : tsliceB Tryd.prog 84 = true := by kernel_rfl
@[go_sem] theorem Tryd.telem84 : telem Tryd.prog 84 = some (5, 1, 1, [.lit (.int .u8 0)]) := by kernel_rfl
theorem Tryd.isSlice84 : ∃ e, Tryd.prog.underlying 84 = some (.slice e) := ⟨5, by kernel_rfl⟩
@[go_sem] theorem Tryd.tkind91 : tkind Tryd.prog 91 = some (some 20) := by kernel_rfl
@[go_sem] theorem Tryd.tsize91 : tsize Tryd.prog 91 = some 20 := by kernel_rfl
@[go_sem] theorem Tryd.tplain91 : tplain Tryd.prog 91 = true := by kernel_rfl
@[go_sem] theorem Tryd.tzero91 : tzero Tryd.prog 91 = some [.lit (.int .u64 0), .lit (.int .u64 0), .lit (.int .u64 0), .lit (.int .u64 0), .lit (.int .u64 0), .lit (.int .u64 0), .lit (.int .u64 0), .lit (.int .u64 0), .lit (.int .u64 0), .lit (.int .u64 0), .lit (.int .u64 0), .lit (.int .u64 0), .lit (.int .u64 0), .lit (.int .u64 0), .lit (.int .u64 0), .lit (.int .u64 0), .lit (.int .u64 0), .lit (.int .u64 0), .lit (.int .u64 0), .lit (.int .u64 0)] := by kernel_rfl
@[go_sem] theorem Tryd.tzeroV91 : tzeroV Tryd.prog 91 = some (.agg [.lit (.int .u64 0), .lit (.int .u64 0), .lit (.int .u64 0), .lit (.int .u64 0), .lit (.int .u64 0), .lit (.int .u64 0), .lit (.int .u64 0), .lit (.int .u64 0), .lit (.int .u64 0), .lit (.int .u64 0), .lit (.int .u64 0), .lit (.int .u64 0), .lit (.int .u64 0), .lit (.int .u64 0), .lit (.int .u64 0), .lit (.int .u64 0), .lit (.int .u64 0), .lit (.int .u64 0), .lit (.int .u64 0), .lit (.int .u64 0)]) := by kernel_rfl
@[go_sem] theorem Tryd.tindex91 : tindex Tryd.prog 91 = .array 20 1 := by kernel_rfl
@[go_sem] theorem Tryd.tkind92 : tkind Tryd.prog 92 = some none := by kernel_rfl
@[go_sem] theorem Tryd.tsize92 : tsize Tryd.prog 92 = some 1 := by kernel_rfl
@[go_sem] theorem Tryd.tplain92 : tplain Tryd.prog 92 = true := by kernel_rfl
@[go_sem] theorem Tryd.tint92 : tint Tryd.prog 92 = some .u32 := by kernel_rfl
@[go_sem] theorem Tryd.tzero92 : tzero Tryd.prog 92 = some [.lit (.int .u32 0)] := by kernel_rfl
@[go_sem] theorem Tryd.tzeroV92 : tzeroV Tryd.prog 92 = some (.lit (.int .u32 0)) := by kernel_rfl
@[go_sem] theorem Tryd.tkind93 : tkind Tryd.prog 93 = some (some 65) := by kernel_rfl
@[go_sem] theorem Tryd.tsize93 : tsize Tryd.prog 93 = some 65 := by kernel_rfl
@[go_sem] theorem Tryd.tplain93 : tplain Tryd.prog 93 = true := by kernel_rfl
@[go_sem] theorem Tryd.tindex93 : tindex Tryd.prog 93 = .array 65 1 := by kernel_rfl
@[go_sem] theorem Tryd.tkind94 : tkind Tryd.prog 94 = some none := by kernel_rfl
@[go_sem] theorem Tryd.tsize94 : tsize Tryd.prog 94 = some 1 := by kernel_rfl
@[go_sem] theorem Tryd.tplain94 : tplain Tryd.prog 94 = true := by kernel_rfl
@[go_sem] theorem Tryd.tint94 : tint Tryd.prog 94 = some .u64 := by kernel_rfl
@[go_sem] theorem Tryd.tzero94 : tzero Tryd.prog 94 = some [.lit (.int .u64 0)] := by kernel_rfl
@[go_sem] theorem Tryd.tzeroV94 : tzeroV Tryd.prog 94 = some (.lit (.int .u64 0)) := by kernel_rfl
@[go_sem] theorem Tryd.tkind96 : tkind Tryd.prog 96 = some none := by kernel_rfl
@[go_sem] theorem Tryd.tsize96 : tsize Tryd.prog 96 = some 1 := by kernel_rfl
@[go_sem] theorem Tryd.tplain96 : tplain Tryd.prog 96 = true := by kernel_rfl
@[go_sem] theorem Tryd.tint96 : tint Tryd.prog 96 = some .i64 := by kernel_rfl
@[go_sem] theorem Tryd.tzero96 : tzero Tryd.prog 96 = some [.lit (.int .i64 0)] := by kernel_rfl
@[go_sem] theorem Tryd.tzeroV96 : tzeroV Tryd.prog 96 = some (.lit (.int .i64 0)) := by kernel_rfl
@[go_sem] theorem Tryd.tkind99 : tkind Tryd.prog 99 = some none := by kernel_rfl
@[go_sem] theorem Tryd.tsize99 : tsize Tryd.prog 99 = some 1 := by kernel_rfl
@[go_sem] theorem Tryd.tplain99 : tplain Tryd.prog 99 = true := by kernel_rfl
@[go_sem] theorem Tryd.tzero99 : tzero Tryd.prog 99 = some [.lit (.pointer none)] := by kernel_rfl
@[go_sem] theorem Tryd.tzeroV99 : tzeroV Tryd.prog 99 = some (.lit (.pointer none)) := by kernel_rfl
@[go_sem] theorem Tryd.tkind102 : tkind Tryd.prog 102 = some (some 256) := by kernel_rfl
@[go_sem] theorem Tryd.tsize102 : tsize Tryd.prog 102 = some 256 := by kernel_rfl
@[go_sem] theorem Tryd.tplain102 : tplain Tryd.prog 102 = true := by kernel_rfl
@[go_sem] theorem Tryd.tindex102 : tindex Tryd.prog 102 = .array 256 1 := by kernel_rfl
@[go_sem] theorem Tryd.tkind104 : tkind Tryd.prog 104 = some (some 2) := by kernel_rfl
@[go_sem] theorem Tryd.tsize104 : tsize Tryd.prog 104 = some 2 := by kernel_rfl
@[go_sem] theorem Tryd.tplain104 : tplain Tryd.prog 104 = true := by kernel_rfl
@[go_sem] theorem Tryd.tzero104 : tzero Tryd.prog 104 = some [.lit (.int .u8 0), .lit (.int .u8 0)] := by kernel_rfl
@[go_sem] theorem Tryd.tzeroV104 : tzeroV Tryd.prog 104 = some (.agg [.lit (.int .u8 0), .lit (.int .u8 0)]) := by kernel_rfl
@[go_sem] theorem Tryd.tstruct104 : tstruct Tryd.prog 104 = true := by kernel_rfl
@[go_sem] theorem Tryd.tfield104_0 : tfield Tryd.prog 104 0 = some (0, 5) := by kernel_rfl
@[go_sem] theorem Tryd.tfield104_1 : tfield Tryd.prog 104 1 = some (1, 5) := by kernel_rfl
@[go_sem] theorem Tryd.tkind105 : tkind Tryd.prog 105 = some (some 32) := by kernel_rfl
@[go_sem] theorem Tryd.tsize105 : tsize Tryd.prog 105 = some 32 := by kernel_rfl
@[go_sem] theorem Tryd.tplain105 : tplain Tryd.prog 105 = true := by kernel_rfl
@[go_sem] theorem Tryd.tzero105 : tzero Tryd.prog 105 = some [.lit (.int .u8 0), .lit (.int .u8 0), .lit (.int .u8 0), .lit (.int .u8 0), .lit (.int .u8 0), .lit (.int .u8 0), .lit (.int .u8 0), .lit (.int .u8 0), .lit (.int .u8 0), .lit (.int .u8 0), .lit (.int .u8 0), .lit (.int .u8 0), .lit (.int .u8 0), .lit (.int .u8 0), .lit (.int .u8 0), .lit (.int .u8 0), .lit (.int .u8 0), .lit (.int .u8 0), .lit (.int .u8 0), .lit (.int .u8 0), .lit (.int .u8 0), .lit (.int .u8 0), .lit (.int .u8 0), .lit (.int .u8 0), .lit (.int .u8 0), .lit (.int .u8 0), .lit (.int .u8 0), .lit (.int .u8 0), .lit (.int .u8 0), .lit (.int .u8 0), .lit (.int .u8 0), .lit (.int .u8 0)] := by kernel_rfl
@[go_sem] theorem Tryd.tzeroV105 : tzeroV Tryd.prog 105 = some (.agg [.lit (.int .u8 0), .lit (.int .u8 0), .lit (.int .u8 0), .lit (.int .u8 0), .lit (.int .u8 0), .lit (.int .u8 0), .lit (.int .u8 0), .lit (.int .u8 0), .lit (.int .u8 0), .lit (.int .u8 0), .lit (.int .u8 0), .lit (.int .u8 0), .lit (.int .u8 0), .lit (.int .u8 0), .lit (.int .u8 0), .lit (.int .u8 0), .lit (.int .u8 0), .lit (.int .u8 0), .lit (.int .u8 0), .lit (.int .u8 0), .lit (.int .u8 0), .lit (.int .u8 0), .lit (.int .u8 0), .lit (.int .u8 0), .lit (.int .u8 0), .lit (.int .u8 0), .lit (.int .u8 0), .lit (.int .u8 0), .lit (.int .u8 0), .lit (.int .u8 0), .lit (.int .u8 0), .lit (.int .u8 0)]) := by kernel_rfl
@[go_sem] theorem Tryd.tindex105 : tindex Tryd.prog 105 = .array 16 2 := by kernel_rfl
@[go_sem] theorem Tryd.tkind114 : tkind Tryd.prog 114 = some (some 3) := by kernel_rfl
@[go_sem] theorem Tryd.tsize114 : tsize Tryd.prog 114 = some 3 := by kernel_rfl
@[go_sem] theorem Tryd.tplain114 : tplain Tryd.prog 114 = true := by kernel_rfl
@[go_sem] theorem Tryd.tzero114 : tzero Tryd.prog 114 = some [.lit (.string ⟨#[]⟩), .lit (.string ⟨#[]⟩), .lit .nilIface] := by kernel_rfl
@[go_sem] theorem Tryd.tzeroV114 : tzeroV Tryd.prog 114 = some (.agg [.lit (.string ⟨#[]⟩), .lit (.string ⟨#[]⟩), .lit .nilIface]) := by kernel_rfl
@[go_sem] theorem Tryd.tstruct114 : tstruct Tryd.prog 114 = true := by kernel_rfl
@[go_sem] theorem Tryd.tfield114_0 : tfield Tryd.prog 114 0 = some (0, 9) := by kernel_rfl
@[go_sem] theorem Tryd.tfield114_1 : tfield Tryd.prog 114 1 = some (1, 9) := by kernel_rfl
@[go_sem] theorem Tryd.tfield114_2 : tfield Tryd.prog 114 2 = some (2, 74) := by kernel_rfl
@[go_sem] theorem Tryd.tkind116 : tkind Tryd.prog 116 = some (some 32) := by kernel_rfl
@[go_sem] theorem Tryd.tsize116 : tsize Tryd.prog 116 = some 32 := by kernel_rfl
@[go_sem] theorem Tryd.tplain116 : tplain Tryd.prog 116 = true := by kernel_rfl
@[go_sem] theorem Tryd.tzero116 : tzero Tryd.prog 116 = some [.lit (.int .u8 0), .lit (.int .u8 0), .lit (.int .u8 0), .lit (.int .u8 0), .lit (.int .u8 0), .lit (.int .u8 0), .lit (.int .u8 0), .lit (.int .u8 0), .lit (.int .u8 0), .lit (.int .u8 0), .lit (.int .u8 0), .lit (.int .u8 0), .lit (.int .u8 0), .lit (.int .u8 0), .lit (.int .u8 0), .lit (.int .u8 0), .lit (.int .u8 0), .lit (.int .u8 0), .lit (.int .u8 0), .lit (.int .u8 0), .lit (.int .u8 0), .lit (.int .u8 0), .lit (.int .u8 0), .lit (.int .u8 0), .lit (.int .u8 0), .lit (.int .u8 0), .lit (.int .u8 0), .lit (.int .u8 0), .lit (.int .u8 0), .lit (.int .u8 0), .lit (.int .u8 0), .lit (.int .u8 0)] := by kernel_rfl
@[go_sem] theorem Tryd.tzeroV116 : tzeroV Tryd.prog 116 = some (.agg [.lit (.int .u8 0), .lit (.int .u8 0), .lit (.int .u8 0), .lit (.int .u8 0), .lit (.int .u8 0), .lit (.int .u8 0), .lit (.int .u8 0), .lit (.int .u8 0), .lit (.int .u8 0), .lit (.int .u8 0), .lit (.int .u8 0), .lit (.int .u8 0), .lit (.int .u8 0), .lit (.int .u8 0), .lit (.int .u8 0), .lit (.int .u8 0), .lit (.int .u8 0), .lit (.int .u8 0), .lit (.int .u8 0), .lit (.int .u8 0), .lit (.int .u8 0), .lit (.int .u8 0), .lit (.int .u8 0), .lit (.int .u8 0), .lit (.int .u8 0), .lit (.int .u8 0), .lit (.int .u8 0), .lit (.int .u8 0), .lit (.int .u8 0), .lit (.int .u8 0), .lit (.int .u8 0), .lit (.int .u8 0)]) := by kernel_rfl
@[go_sem] theorem Tryd.tindex116 : tindex Tryd.prog 116 = .array 32 1 := by kernel_rfl
@[go_sem] theorem Tryd.tkind117 : tkind Tryd.prog 117 = some (some 64) := by kernel_rfl
@[go_sem] theorem Tryd.tsize117 : tsize Tryd.prog 117 = some 64 := by kernel_rfl
@[go_sem] theorem Tryd.tplain117 : tplain Tryd.prog 117 = true := by kernel_rfl
@[go_sem] theorem Tryd.tindex117 : tindex Tryd.prog 117 = .array 64 1 := by kernel_rfl
@[go_sem] theorem Tryd.tkind120 : tkind Tryd.prog 120 = some none := by kernel_rfl
@[go_sem] theorem Tryd.tsize120 : tsize Tryd.prog 120 = some 1 := by kernel_rfl
@[go_sem] theorem Tryd.tplain120 : tplain Tryd.prog 120 = true := by kernel_rfl
@[go_sem] theorem Tryd.tzero120 : tzero Tryd.prog 120 = some [.lit (.pointer none)] := by kernel_rfl
@[go_sem] theorem Tryd.tzeroV120 : tzeroV Tryd.prog 120 = some (.lit (.pointer none)) := by kernel_rfl
@[go_sem] theorem Tryd.tkind121 : tkind Tryd.prog 121 = some none := by kernel_rfl
@[go_sem] theorem Tryd.tsize121 : tsize Tryd.prog 121 = some 1 := by kernel_rfl
@[go_sem] theorem Tryd.tplain121 : tplain Tryd.prog 121 = true := by kernel_rfl
@[go_sem] theorem Tryd.tzero121 : tzero Tryd.prog 121 = some [.lit (.pointer none)] := by kernel_rfl
@[go_sem] theorem Tryd.tzeroV121 : tzeroV Tryd.prog 121 = some (.lit (.pointer none)) := by kernel_rfl
@[go_sem] theorem Tryd.tkind123 : tkind Tryd.prog 123 = some (some 1) := by kernel_rfl
@[go_sem] theorem Tryd.tsize123 : tsize Tryd.prog 123 = some 1 := by kernel_rfl
@[go_sem] theorem Tryd.tplain123 : tplain Tryd.prog 123 = true := by kernel_rfl
@[go_sem] theorem Tryd.tzero123 : tzero Tryd.prog 123 = some [.lit (.string ⟨#[]⟩)] := by kernel_rfl
@[go_sem] theorem Tryd.tzeroV123 : tzeroV Tryd.prog 123 = some (.agg [.lit (.string ⟨#[]⟩)]) := by kernel_rfl
@[go_sem] theorem Tryd.tstruct123 : tstruct Tryd.prog 123 = true := by kernel_rfl
@[go_sem] theorem Tryd.tfield123_0 : tfield Tryd.prog 123 0 = some (0, 9) := by kernel_rfl
@[go_sem] theorem Tryd.enters3 : entersB Tryd.prog 3 = true := by kernel_rfl
@[go_sem] theorem Tryd.enters4 : entersB Tryd.prog 4 = true := by kernel_rfl
@[go_sem] theorem Tryd.enters5 : entersB Tryd.prog 5 = true := by kernel_rfl
@[go_sem] theorem Tryd.enters6 : entersB Tryd.prog 6 = true := by kernel_rfl
@[go_sem] theorem Tryd.enters7 : entersB Tryd.prog 7 = true := by kernel_rfl
@[go_sem] theorem Tryd.enters8 : entersB Tryd.prog 8 = true := by kernel_rfl
@[go_sem] theorem Tryd.enters9 : entersB Tryd.prog 9 = true := by kernel_rfl
@[go_sem] theorem Tryd.enters10 : entersB Tryd.prog 10 = true := by kernel_rfl
@[go_sem] theorem Tryd.enters11 : entersB Tryd.prog 11 = true := by kernel_rfl
@[go_sem] theorem Tryd.enters12 : entersB Tryd.prog 12 = true := by kernel_rfl
@[go_sem] theorem Tryd.enters13 : entersB Tryd.prog 13 = true := by kernel_rfl
@[go_sem] theorem Tryd.enters14 : entersB Tryd.prog 14 = true := by kernel_rfl
@[go_sem] theorem Tryd.enters15 : entersB Tryd.prog 15 = true := by kernel_rfl
@[go_sem] theorem Tryd.enters16 : entersB Tryd.prog 16 = true := by kernel_rfl
@[go_sem] theorem Tryd.enters17 : entersB Tryd.prog 17 = true := by kernel_rfl
@[go_sem] theorem Tryd.enters18 : entersB Tryd.prog 18 = true := by kernel_rfl
@[go_sem] theorem Tryd.enters19 : entersB Tryd.prog 19 = true := by kernel_rfl
@[go_sem] theorem Tryd.enters20 : entersB Tryd.prog 20 = true := by kernel_rfl
@[go_sem] theorem Tryd.enters21 : entersB Tryd.prog 21 = true := by kernel_rfl
@[go_sem] theorem Tryd.enters22 : entersB Tryd.prog 22 = true := by kernel_rfl
@[go_sem] theorem Tryd.enters23 : entersB Tryd.prog 23 = true := by kernel_rfl
@[go_sem] theorem Tryd.enters24 : entersB Tryd.prog 24 = true := by kernel_rfl
@[go_sem] theorem Tryd.enters25 : entersB Tryd.prog 25 = true := by kernel_rfl
@[go_sem] theorem Tryd.enters26 : entersB Tryd.prog 26 = true := by kernel_rfl
@[go_sem] theorem Tryd.enters27 : entersB Tryd.prog 27 = true := by kernel_rfl
@[go_sem] theorem Tryd.enters28 : entersB Tryd.prog 28 = true := by kernel_rfl
@[go_sem] theorem Tryd.enters29 : entersB Tryd.prog 29 = true := by kernel_rfl
@[go_sem] theorem Tryd.enters30 : entersB Tryd.prog 30 = true := by kernel_rfl
@[go_sem] theorem Tryd.enters31 : entersB Tryd.prog 31 = true := by kernel_rfl
@[go_sem] theorem Tryd.enters32 : entersB Tryd.prog 32 = true := by kernel_rfl
@[go_sem] theorem Tryd.enters33 : entersB Tryd.prog 33 = true := by kernel_rfl
@[go_sem] theorem Tryd.enters34 : entersB Tryd.prog 34 = true := by kernel_rfl
@[go_sem] theorem Tryd.enters35 : entersB Tryd.prog 35 = true := by kernel_rfl
@[go_sem] theorem Tryd.enters36 : entersB Tryd.prog 36 = true := by kernel_rfl
@[go_sem] theorem Tryd.enters37 : entersB Tryd.prog 37 = true := by kernel_rfl
@[go_sem] theorem Tryd.enters38 : entersB Tryd.prog 38 = true := by kernel_rfl
@[go_sem] theorem Tryd.enters39 : entersB Tryd.prog 39 = true := by kernel_rfl
@[go_sem] theorem Tryd.enters40 : entersB Tryd.prog 40 = true := by kernel_rfl
@[go_sem] theorem Tryd.enters41 : entersB Tryd.prog 41 = true := by kernel_rfl
@[go_sem] theorem Tryd.enters42 : entersB Tryd.prog 42 = true := by kernel_rfl
@[go_sem] theorem Tryd.enters43 : entersB Tryd.prog 43 = true := by kernel_rfl
@[go_sem] theorem Tryd.enters44 : entersB Tryd.prog 44 = true := by kernel_rfl
@[go_sem] theorem Tryd.enters45 : entersB Tryd.prog 45 = true := by kernel_rfl
@[go_sem] theorem Tryd.enters46 : entersB Tryd.prog 46 = true := by kernel_rfl
@[go_sem] theorem Tryd.enters47 : entersB Tryd.prog 47 = true := by kernel_rfl
@[go_sem] theorem Tryd.enters48 : entersB Tryd.prog 48 = true := by kernel_rfl
@[go_sem] theorem Tryd.enters49 : entersB Tryd.prog 49 = true := by kernel_rfl
@[go_sem] theorem Tryd.enters50 : entersB Tryd.prog 50 = true := by kernel_rfl
@[go_sem] theorem Tryd.enters51 : entersB Tryd.prog 51 = true := by kernel_rfl
@[go_sem] theorem Tryd.enters52 : entersB Tryd.prog 52 = true := by kernel_rfl
@[go_sem] theorem Tryd.enters53 : entersB Tryd.prog 53 = true := by kernel_rfl
@[go_sem] theorem Tryd.enters54 : entersB Tryd.prog 54 = true := by kernel_rfl
@[go_sem] theorem Tryd.enters55 : entersB Tryd.prog 55 = true := by kernel_rfl
@[go_sem] theorem Tryd.enters56 : entersB Tryd.prog 56 = true := by kernel_rfl
@[go_sem] theorem Tryd.enters57 : entersB Tryd.prog 57 = true := by kernel_rfl
@[go_sem] theorem Tryd.enters58 : entersB Tryd.prog 58 = true := by kernel_rfl
@[go_sem] theorem Tryd.enters59 : entersB Tryd.prog 59 = true := by kernel_rfl
@[go_sem] theorem Tryd.enters60 : entersB Tryd.prog 60 = true := by kernel_rfl
@[go_sem] theorem Tryd.enters61 : entersB Tryd.prog 61 = true := by kernel_rfl
@[go_sem] theorem Tryd.enters62 : entersB Tryd.prog 62 = true := by kernel_rfl
@[go_sem] theorem Tryd.enters63 : entersB Tryd.prog 63 = true := by kernel_rfl
@[go_sem] theorem Tryd.enters64 : entersB Tryd.prog 64 = true := by kernel_rfl
@[go_sem] theorem Tryd.enters65 : entersB Tryd.prog 65 = true := by kernel_rfl
@[go_sem] theorem Tryd.enters67 : entersB Tryd.prog 67 = true := by kernel_rfl
@[go_sem] theorem Tryd.enters68 : entersB Tryd.prog 68 = true := by kernel_rfl
@[go_sem] theorem Tryd.enters69 : entersB Tryd.prog 69 = true := by kernel_rfl
@[go_sem] theorem Tryd.enters70 : entersB Tryd.prog 70 = true := by kernel_rfl
@[go_sem] theorem Tryd.enters71 : entersB Tryd.prog 71 = true := by kernel_rfl
@[go_sem] theorem Tryd.enters72 : entersB Tryd.prog 72 = true := by kernel_rfl
@[go_sem] theorem Tryd.enters73 : entersB Tryd.prog 73 = true := by kernel_rfl
@[go_sem] theorem Tryd.enters74 : entersB Tryd.prog 74 = true := by kernel_rfl
@[go_sem] theorem Tryd.enters105 : entersB Tryd.prog 105 = true := by kernel_rfl
end Go.Proofs.YtaeobokijndboaaDoor
