/- What functions of this seat compute, each for every argument of the shapes that are named; no condition beside the stated ones. -/
import Derived.Test.YtchadfgdcncpkaaGreatCx16cg
import Derived.Test.YtchadfgdcncpkaaGreatProg
namespace Go.Cx
open Go.Proofs
def tysT : Tri (Option TI) :=
  (.node (.node (.node (.node (.node (.node (.node (.node .nil (some ⟨.func, 1, 8, V.nilfn⟩) .nil) (some ⟨(.struct [(0, 4), (1, 3)]), 2, 16, V.agg [V.bool false, V.int .i64 0]⟩) (.node .nil (some ⟨(.struct [(0, 21), (1, 5), (2, 5), (3, 190)]), 5, 8, V.agg [V.int .i32 0, V.int .u8 0, V.int .u8 0, V.int .u8 0, V.int .u8 0]⟩) .nil)) (some ⟨.func, 1, 8, V.nilfn⟩) (.node (.node .nil (some ⟨.func, 1, 8, V.nilfn⟩) .nil) (some ⟨.func, 1, 8, V.nilfn⟩) (.node .nil (some ⟨.func, 1, 8, V.nilfn⟩) .nil))) (some ⟨(.ptr 252), 1, 8, V.nilp⟩) (.node (.node .nil (some ⟨.func, 1, 8, V.nilfn⟩) (.node .nil (some ⟨.func, 1, 8, V.nilfn⟩) .nil)) none (.node (.node .nil (some ⟨.func, 1, 8, V.nilfn⟩) .nil) (some ⟨.func, 1, 8, V.nilfn⟩) (.node .nil (some ⟨(.slice 240), 1, 24, V.nils⟩) .nil)))) none (.node (.node (.node (.node (.node .nil (some ⟨.func, 1, 8, V.nilfn⟩) .nil) (some ⟨.func, 1, 8, V.nilfn⟩) .nil) (some ⟨(.slice 28), 1, 24, V.nils⟩) .nil) (some ⟨(.struct [(0, 38), (4, 38), (8, 24)]), 9, 10, V.agg [V.int .u8 0, V.int .u8 0, V.int .u8 0, V.int .u8 0, V.int .u8 0, V.int .u8 0, V.int .u8 0, V.int .u8 0, V.int .u16 0]⟩) (.node (.node .nil (some ⟨.func, 1, 8, V.nilfn⟩) .nil) (some ⟨.func, 1, 8, V.nilfn⟩) (.node .nil (some ⟨.func, 1, 8, V.nilfn⟩) .nil))) (some ⟨(.slice 5), 1, 24, V.nils⟩) (.node (.node (.node .nil (some ⟨.func, 1, 8, V.nilfn⟩) .nil) (some ⟨(.struct [(0, 86), (8, 3), (9, 34), (10, 34)]), 11, 80, V.agg [V.int .u64 0, V.int .u64 0, V.int .u64 0, V.int .u64 0, V.int .u64 0, V.int .u64 0, V.int .u64 0, V.int .u64 0, V.int .i64 0, V.int .u8 0, V.int .u8 0]⟩) (.node .nil (some ⟨.func, 1, 8, V.nilfn⟩) .nil)) (some ⟨(.struct [(0, 3), (1, 3), (2, 3), (3, 3), (4, 4), (5, 34)]), 6, 40, V.agg [V.int .i64 0, V.int .i64 0, V.int .i64 0, V.int .i64 0, V.bool false, V.int .u8 0]⟩) (.node (.node .nil (some ⟨(.slice 125), 1, 24, V.nils⟩) .nil) (some ⟨(.struct [(0, 32), (1, 34)]), 2, 16, V.agg [V.nilp, V.int .u8 0]⟩) (.node .nil (some ⟨(.arr 4 246), 12, 12, V.agg [V.int .u8 0, V.int .u8 0, V.int .u8 0, V.int .u8 0, V.int .u8 0, V.int .u8 0, V.int .u8 0, V.int .u8 0, V.int .u8 0, V.int .u8 0, V.int .u8 0, V.int .u8 0]⟩) .nil))))) (some ⟨(.int .i64), 1, 8, V.int .i64 0⟩) (.node (.node (.node (.node (.node (.node .nil (some ⟨(.int .i32), 1, 4, V.int .i32 0⟩) .nil) (some ⟨(.arr 2 108), 2, 48, V.agg [V.nils, V.nils]⟩) .nil) (some ⟨.func, 1, 8, V.nilfn⟩) (.node .nil (some ⟨.func, 1, 8, V.nilfn⟩) .nil)) (some ⟨.func, 1, 8, V.nilfn⟩) (.node (.node .nil (some ⟨.func, 1, 8, V.nilfn⟩) .nil) (some ⟨.func, 1, 8, V.nilfn⟩) (.node .nil (some ⟨.func, 1, 8, V.nilfn⟩) .nil))) none (.node (.node (.node .nil (some ⟨(.struct [(0, 108), (1, 3)]), 2, 32, V.agg [V.nils, V.int .i64 0]⟩) .nil) (some ⟨(.ptr 148), 1, 8, V.nilp⟩) (.node .nil (some ⟨.func, 1, 8, V.nilfn⟩) .nil)) (some ⟨(.struct [(0, 3), (1, 3), (2, 4), (3, 34)]), 4, 24, V.agg [V.int .i64 0, V.int .i64 0, V.bool false, V.int .u8 0]⟩) (.node (.node .nil (some ⟨(.slice 1), 1, 24, V.nils⟩) .nil) (some ⟨.func, 1, 8, V.nilfn⟩) (.node .nil (some ⟨.func, 1, 8, V.nilfn⟩) .nil)))) (some ⟨.str, 1, 16, V.str ⟨#[]⟩⟩) (.node (.node (.node (.node .nil (some ⟨(.struct [(0, 137), (1, 23)]), 2, 32, V.agg [V.nilp, V.nils]⟩) .nil) (some ⟨(.slice 46), 1, 24, V.nils⟩) (.node .nil (some ⟨.func, 1, 8, V.nilfn⟩) .nil)) (some ⟨.func, 1, 8, V.nilfn⟩) (.node (.node .nil (some ⟨(.slice 34), 1, 24, V.nils⟩) .nil) (some ⟨.func, 1, 8, V.nilfn⟩) (.node .nil (some ⟨.func, 1, 8, V.nilfn⟩) .nil))) (some ⟨(.struct [(0, 5), (1, 5), (2, 5), (3, 21), (4, 4), (5, 26)]), 13, 20, V.agg [V.int .u8 0, V.int .u8 0, V.int .u8 0, V.int .i32 0, V.bool false, V.int .u16 0, V.int .u8 0, V.int .u8 0, V.int .u8 0, V.int .u8 0, V.int .u8 0, V.int .u8 0, V.int .u8 0]⟩) (.node (.node (.node .nil (some ⟨(.struct [(0, 55)]), 6, 40, V.agg [V.int .i64 0, V.int .i64 0, V.int .i64 0, V.int .i64 0, V.bool false, V.int .u8 0]⟩) .nil) (some ⟨(.struct [(0, 89)]), 1, 2, V.agg [V.int .u16 0]⟩) (.node .nil (some ⟨.uptr, 1, 8, V.nilp⟩) .nil)) (some ⟨.func, 1, 8, V.nilfn⟩) (.node (.node .nil (some ⟨(.ptr 5), 1, 8, V.nilp⟩) .nil) (some ⟨.func, 1, 8, V.nilfn⟩) .nil))))) (some ⟨.func, 1, 8, V.nilfn⟩) (.node (.node (.node (.node (.node (.node (.node .nil (some ⟨(.int .u8), 1, 1, V.int .u8 0⟩) .nil) (some ⟨.func, 1, 8, V.nilfn⟩) .nil) (some ⟨.func, 1, 8, V.nilfn⟩) .nil) (some ⟨.func, 1, 8, V.nilfn⟩) (.node (.node .nil (some ⟨.func, 1, 8, V.nilfn⟩) .nil) (some ⟨.func, 1, 8, V.nilfn⟩) (.node .nil (some ⟨.func, 1, 8, V.nilfn⟩) .nil))) (some ⟨(.ptr 262), 1, 8, V.nilp⟩) (.node (.node (.node .nil (some ⟨.func, 1, 8, V.nilfn⟩) .nil) (some ⟨(.struct [(0, 55)]), 6, 40, V.agg [V.int .i64 0, V.int .i64 0, V.int .i64 0, V.int .i64 0, V.bool false, V.int .u8 0]⟩) (.node .nil (some ⟨.func, 1, 8, V.nilfn⟩) .nil)) (some ⟨(.struct [(0, 3), (1, 3)]), 2, 16, V.agg [V.int .i64 0, V.int .i64 0]⟩) (.node (.node .nil (some ⟨.func, 1, 8, V.nilfn⟩) .nil) (some ⟨(.slice 64), 1, 24, V.nils⟩) (.node .nil (some ⟨(.ptr 52), 1, 8, V.nilp⟩) .nil)))) (some ⟨.str, 1, 16, V.str ⟨#[]⟩⟩) (.node (.node (.node (.node .nil (some ⟨(.ptr 139), 1, 8, V.nilp⟩) .nil) (some ⟨.func, 1, 8, V.nilfn⟩) (.node .nil (some ⟨.func, 1, 8, V.nilfn⟩) .nil)) (some ⟨.func, 1, 8, V.nilfn⟩) (.node (.node .nil (some ⟨(.slice 168), 1, 24, V.nils⟩) .nil) (some ⟨.func, 1, 8, V.nilfn⟩) (.node .nil (some ⟨.func, 1, 8, V.nilfn⟩) .nil))) (some ⟨(.struct [(0, 24), (1, 5), (2, 22), (5, 22)]), 8, 10, V.agg [V.int .u16 0, V.int .u8 0, V.int .u8 0, V.int .u8 0, V.int .u8 0, V.int .u8 0, V.int .u8 0, V.int .u8 0]⟩) (.node (.node (.node .nil (some ⟨.func, 1, 8, V.nilfn⟩) .nil) (some ⟨(.int .u16), 1, 2, V.int .u16 0⟩) (.node .nil (some ⟨(.struct [(0, 46), (14, 4)]), 15, 32, V.agg [V.int .i32 0, V.int .i32 0, V.int .i32 0, V.int .u8 0, V.int .u8 0, V.int .u8 0, V.int .u8 0, V.int .u8 0, V.int .u8 0, V.int .u8 0, V.int .u8 0, V.int .u8 0, V.int .u16 0, V.int .u8 0, V.bool false]⟩) .nil)) (some ⟨(.ptr 110), 1, 8, V.nilp⟩) (.node (.node .nil (some ⟨.func, 1, 8, V.nilfn⟩) .nil) (some ⟨.func, 1, 8, V.nilfn⟩) (.node .nil (some ⟨(.slice 108), 1, 24, V.nils⟩) .nil))))) (some ⟨(.int .u8), 1, 1, V.int .u8 0⟩) (.node (.node (.node (.node (.node .nil (some ⟨.func, 1, 8, V.nilfn⟩) .nil) (some ⟨.func, 1, 8, V.nilfn⟩) (.node .nil (some ⟨.func, 1, 8, V.nilfn⟩) .nil)) (some ⟨(.struct [(0, 5), (1, 5), (2, 5), (3, 5)]), 4, 4, V.agg [V.int .u8 0, V.int .u8 0, V.int .u8 0, V.int .u8 0]⟩) (.node (.node .nil (some ⟨.func, 1, 8, V.nilfn⟩) .nil) (some ⟨.func, 1, 8, V.nilfn⟩) (.node .nil (some ⟨.func, 1, 8, V.nilfn⟩) .nil))) (some ⟨(.int .i32), 1, 4, V.int .i32 0⟩) (.node (.node (.node .nil (some ⟨.func, 1, 8, V.nilfn⟩) .nil) (some ⟨(.int .u64), 1, 8, V.int .u64 0⟩) (.node .nil (some ⟨.func, 1, 8, V.nilfn⟩) .nil)) (some ⟨.func, 1, 8, V.nilfn⟩) (.node (.node .nil (some ⟨.func, 1, 8, V.nilfn⟩) .nil) (some ⟨.func, 1, 8, V.nilfn⟩) (.node .nil (some ⟨(.slice 3), 1, 24, V.nils⟩) .nil)))) none (.node (.node (.node .nil (some ⟨.func, 1, 8, V.nilfn⟩) (.node .nil (some ⟨.func, 1, 8, V.nilfn⟩) .nil)) (some ⟨(.struct [(0, 21), (1, 44), (3, 5), (4, 40), (13, 34)]), 14, 28, V.agg [V.int .i32 0, V.int .i32 0, V.int .i32 0, V.int .u8 0, V.int .u8 0, V.int .u8 0, V.int .u8 0, V.int .u8 0, V.int .u8 0, V.int .u8 0, V.int .u8 0, V.int .u8 0, V.int .u16 0, V.int .u8 0]⟩) (.node (.node .nil (some ⟨.func, 1, 8, V.nilfn⟩) .nil) (some ⟨(.struct [(0, 108), (1, 3), (2, 3), (3, 34)]), 4, 48, V.agg [V.nils, V.int .i64 0, V.int .i64 0, V.int .u8 0]⟩) (.node .nil (some ⟨.func, 1, 8, V.nilfn⟩) .nil))) (some ⟨.func, 1, 8, V.nilfn⟩) (.node (.node (.node .nil (some ⟨.func, 1, 8, V.nilfn⟩) .nil) (some ⟨(.struct [(0, 81), (6, 52), (10, 84), (12, 57), (13, 3), (14, 88), (25, 91), (26, 40), (35, 21), (36, 34)]), 37, 200, V.agg [V.int .i64 0, V.int .i64 0, V.int .i64 0, V.int .i64 0, V.bool false, V.int .u8 0, V.int .i64 0, V.int .i64 0, V.bool false, V.int .u8 0, V.nilp, V.nilp, V.nilp, V.int .i64 0, V.int .u64 0, V.int .u64 0, V.int .u64 0, V.int .u64 0, V.int .u64 0, V.int .u64 0, V.int .u64 0, V.int .u64 0, V.int .i64 0, V.int .u8 0, V.int .u8 0, V.int .u16 0, V.int .u8 0, V.int .u8 0, V.int .u8 0, V.int .u8 0, V.int .u8 0, V.int .u8 0, V.int .u8 0, V.int .u8 0, V.int .u16 0, V.int .i32 0, V.int .u8 0]⟩) (.node .nil (some ⟨(.int .u32), 1, 4, V.int .u32 0⟩) .nil)) (some ⟨.func, 1, 8, V.nilfn⟩) (.node (.node .nil (some ⟨(.struct [(0, 5), (1, 5)]), 2, 2, V.agg [V.int .u8 0, V.int .u8 0]⟩) .nil) (some ⟨(.struct [(0, 4), (1, 3)]), 2, 16, V.agg [V.bool false, V.int .i64 0]⟩) (.node .nil (some ⟨(.arr 0 16), 0, 0, V.agg []⟩) .nil))))))) none (.node (.node (.node (.node (.node (.node (.node (.node .nil (some ⟨(.int .u8), 1, 1, V.int .u8 0⟩) .nil) (some ⟨.func, 1, 8, V.nilfn⟩) .nil) (some ⟨(.struct [(0, 4), (1, 3)]), 2, 16, V.agg [V.bool false, V.int .i64 0]⟩) (.node .nil (some ⟨(.struct [(0, 21), (1, 5), (2, 5), (3, 190)]), 5, 8, V.agg [V.int .i32 0, V.int .u8 0, V.int .u8 0, V.int .u8 0, V.int .u8 0]⟩) .nil)) (some ⟨(.ptr 93), 1, 8, V.nilp⟩) (.node (.node .nil (some ⟨.func, 1, 8, V.nilfn⟩) .nil) (some ⟨.func, 1, 8, V.nilfn⟩) (.node .nil (some ⟨.func, 1, 8, V.nilfn⟩) .nil))) (some ⟨(.ptr 255), 1, 8, V.nilp⟩) (.node (.node (.node .nil (some ⟨.func, 1, 8, V.nilfn⟩) .nil) (some ⟨(.struct [(0, 55)]), 6, 40, V.agg [V.int .i64 0, V.int .i64 0, V.int .i64 0, V.int .i64 0, V.bool false, V.int .u8 0]⟩) .nil) (some ⟨.func, 1, 8, V.nilfn⟩) (.node (.node .nil (some ⟨.func, 1, 8, V.nilfn⟩) .nil) (some ⟨.func, 1, 8, V.nilfn⟩) (.node .nil (some ⟨.func, 1, 8, V.nilfn⟩) .nil)))) none (.node (.node (.node (.node .nil (some ⟨.func, 1, 8, V.nilfn⟩) .nil) (some ⟨.func, 1, 8, V.nilfn⟩) (.node .nil (some ⟨.func, 1, 8, V.nilfn⟩) .nil)) (some ⟨(.struct [(0, 38), (4, 38), (8, 24)]), 9, 10, V.agg [V.int .u8 0, V.int .u8 0, V.int .u8 0, V.int .u8 0, V.int .u8 0, V.int .u8 0, V.int .u8 0, V.int .u8 0, V.int .u16 0]⟩) (.node (.node .nil (some ⟨(.arr 2 21), 2, 8, V.agg [V.int .i32 0, V.int .i32 0]⟩) .nil) (some ⟨.func, 1, 8, V.nilfn⟩) (.node .nil (some ⟨.func, 1, 8, V.nilfn⟩) .nil))) (some ⟨(.int .u16), 1, 2, V.int .u16 0⟩) (.node (.node (.node .nil (some ⟨(.slice 21), 1, 24, V.nils⟩) .nil) (some ⟨(.struct [(0, 86), (8, 3), (9, 34), (10, 34)]), 11, 80, V.agg [V.int .u64 0, V.int .u64 0, V.int .u64 0, V.int .u64 0, V.int .u64 0, V.int .u64 0, V.int .u64 0, V.int .u64 0, V.int .i64 0, V.int .u8 0, V.int .u8 0]⟩) (.node .nil (some ⟨(.struct [(0, 46), (14, 4)]), 15, 32, V.agg [V.int .i32 0, V.int .i32 0, V.int .i32 0, V.int .u8 0, V.int .u8 0, V.int .u8 0, V.int .u8 0, V.int .u8 0, V.int .u8 0, V.int .u8 0, V.int .u8 0, V.int .u8 0, V.int .u16 0, V.int .u8 0, V.bool false]⟩) .nil)) (some ⟨.func, 1, 8, V.nilfn⟩) (.node (.node .nil (some ⟨.func, 1, 8, V.nilfn⟩) .nil) (some ⟨(.struct [(0, 32), (1, 34)]), 2, 16, V.agg [V.nilp, V.int .u8 0]⟩) (.node .nil (some ⟨.func, 1, 8, V.nilfn⟩) .nil))))) (some ⟨.bool, 1, 1, V.bool false⟩) (.node (.node (.node (.node (.node (.node .nil (some ⟨(.int .i32), 1, 4, V.int .i32 0⟩) .nil) (some ⟨.func, 1, 8, V.nilfn⟩) .nil) (some ⟨.func, 1, 8, V.nilfn⟩) (.node .nil (some ⟨.func, 1, 8, V.nilfn⟩) .nil)) (some ⟨.func, 1, 8, V.nilfn⟩) (.node .nil (some ⟨.func, 1, 8, V.nilfn⟩) (.node .nil (some ⟨.func, 1, 8, V.nilfn⟩) .nil))) none (.node (.node (.node .nil (some ⟨(.struct [(0, 108), (1, 3)]), 2, 32, V.agg [V.nils, V.int .i64 0]⟩) .nil) (some ⟨(.arr 2 83), 2, 16, V.agg [V.nilp, V.nilp]⟩) (.node .nil (some ⟨.func, 1, 8, V.nilfn⟩) .nil)) (some ⟨(.struct [(0, 3), (1, 3), (2, 4), (3, 34)]), 4, 24, V.agg [V.int .i64 0, V.int .i64 0, V.bool false, V.int .u8 0]⟩) (.node (.node .nil (some ⟨.func, 1, 8, V.nilfn⟩) .nil) (some ⟨.func, 1, 8, V.nilfn⟩) (.node .nil (some ⟨.func, 1, 8, V.nilfn⟩) .nil)))) (some ⟨(.int .u64), 1, 8, V.int .u64 0⟩) (.node (.node (.node .nil none (.node .nil (some ⟨.func, 1, 8, V.nilfn⟩) .nil)) (some ⟨(.arr 2 21), 2, 8, V.agg [V.int .i32 0, V.int .i32 0]⟩) (.node (.node .nil (some ⟨.func, 1, 8, V.nilfn⟩) .nil) (some ⟨(.slice 75), 1, 24, V.nils⟩) (.node .nil (some ⟨.func, 1, 8, V.nilfn⟩) .nil))) (some ⟨(.struct [(0, 5), (1, 5), (2, 5), (3, 21), (4, 4), (5, 26)]), 13, 20, V.agg [V.int .u8 0, V.int .u8 0, V.int .u8 0, V.int .i32 0, V.bool false, V.int .u16 0, V.int .u8 0, V.int .u8 0, V.int .u8 0, V.int .u8 0, V.int .u8 0, V.int .u8 0, V.int .u8 0]⟩) (.node (.node (.node .nil (some ⟨.func, 1, 8, V.nilfn⟩) .nil) (some ⟨(.struct [(0, 81), (6, 52), (10, 84), (12, 57), (13, 3), (14, 88), (25, 91), (26, 40), (35, 21), (36, 34)]), 37, 200, V.agg [V.int .i64 0, V.int .i64 0, V.int .i64 0, V.int .i64 0, V.bool false, V.int .u8 0, V.int .i64 0, V.int .i64 0, V.bool false, V.int .u8 0, V.nilp, V.nilp, V.nilp, V.int .i64 0, V.int .u64 0, V.int .u64 0, V.int .u64 0, V.int .u64 0, V.int .u64 0, V.int .u64 0, V.int .u64 0, V.int .u64 0, V.int .i64 0, V.int .u8 0, V.int .u8 0, V.int .u16 0, V.int .u8 0, V.int .u8 0, V.int .u8 0, V.int .u8 0, V.int .u8 0, V.int .u8 0, V.int .u8 0, V.int .u8 0, V.int .u16 0, V.int .i32 0, V.int .u8 0]⟩) (.node .nil (some ⟨.func, 1, 8, V.nilfn⟩) .nil)) (some ⟨.func, 1, 8, V.nilfn⟩) (.node (.node .nil (some ⟨.func, 1, 8, V.nilfn⟩) .nil) (some ⟨.func, 1, 8, V.nilfn⟩) .nil))))) (some ⟨(.int .i64), 1, 8, V.int .i64 0⟩) (.node (.node (.node (.node (.node (.node (.node .nil (some ⟨.func, 1, 8, V.nilfn⟩) .nil) (some ⟨.func, 1, 8, V.nilfn⟩) .nil) none (.node .nil (some ⟨.func, 1, 8, V.nilfn⟩) .nil)) (some ⟨(.int .u8), 1, 1, V.int .u8 0⟩) (.node (.node .nil (some ⟨(.map 64 89), 1, 8, V.nilm⟩) .nil) (some ⟨(.slice 9), 1, 24, V.nils⟩) (.node .nil (some ⟨.func, 1, 8, V.nilfn⟩) .nil))) none (.node (.node (.node .nil (some ⟨.func, 1, 8, V.nilfn⟩) .nil) (some ⟨.func, 1, 8, V.nilfn⟩) (.node .nil (some ⟨.func, 1, 8, V.nilfn⟩) .nil)) (some ⟨(.struct [(0, 3), (1, 3)]), 2, 16, V.agg [V.int .i64 0, V.int .i64 0]⟩) (.node (.node .nil (some ⟨.func, 1, 8, V.nilfn⟩) .nil) none (.node .nil (some ⟨.func, 1, 8, V.nilfn⟩) .nil)))) (some ⟨.str, 1, 16, V.str ⟨#[]⟩⟩) (.node (.node (.node (.node .nil (some ⟨(.struct [(0, 137), (1, 23)]), 2, 32, V.agg [V.nilp, V.nils]⟩) .nil) (some ⟨.func, 1, 8, V.nilfn⟩) (.node .nil (some ⟨.func, 1, 8, V.nilfn⟩) .nil)) (some ⟨.func, 1, 8, V.nilfn⟩) (.node (.node .nil (some ⟨.func, 1, 8, V.nilfn⟩) .nil) (some ⟨.func, 1, 8, V.nilfn⟩) (.node .nil (some ⟨.func, 1, 8, V.nilfn⟩) .nil))) (some ⟨(.struct [(0, 24), (1, 5), (2, 22), (5, 22)]), 8, 10, V.agg [V.int .u16 0, V.int .u8 0, V.int .u8 0, V.int .u8 0, V.int .u8 0, V.int .u8 0, V.int .u8 0, V.int .u8 0]⟩) (.node (.node (.node .nil (some ⟨.func, 1, 8, V.nilfn⟩) .nil) (some ⟨(.struct [(0, 89)]), 1, 2, V.agg [V.int .u16 0]⟩) (.node .nil (some ⟨.func, 1, 8, V.nilfn⟩) .nil)) (some ⟨.func, 1, 8, V.nilfn⟩) (.node (.node .nil (some ⟨.func, 1, 8, V.nilfn⟩) .nil) (some ⟨.func, 1, 8, V.nilfn⟩) (.node .nil (some ⟨.func, 1, 8, V.nilfn⟩) .nil))))) (some ⟨(.int .u8), 1, 1, V.int .u8 0⟩) (.node (.node (.node (.node (.node .nil (some ⟨.func, 1, 8, V.nilfn⟩) .nil) (some ⟨.func, 1, 8, V.nilfn⟩) (.node .nil (some ⟨.func, 1, 8, V.nilfn⟩) .nil)) (some ⟨(.struct [(0, 5), (1, 5), (2, 5), (3, 5)]), 4, 4, V.agg [V.int .u8 0, V.int .u8 0, V.int .u8 0, V.int .u8 0]⟩) (.node (.node .nil (some ⟨.func, 1, 8, V.nilfn⟩) .nil) (some ⟨.func, 1, 8, V.nilfn⟩) (.node .nil (some ⟨.func, 1, 8, V.nilfn⟩) .nil))) (some ⟨(.arr 3 5), 3, 3, V.agg [V.int .u8 0, V.int .u8 0, V.int .u8 0]⟩) (.node (.node (.node .nil (some ⟨.func, 1, 8, V.nilfn⟩) .nil) (some ⟨(.arr 8 85), 8, 64, V.agg [V.int .u64 0, V.int .u64 0, V.int .u64 0, V.int .u64 0, V.int .u64 0, V.int .u64 0, V.int .u64 0, V.int .u64 0]⟩) (.node .nil (some ⟨.func, 1, 8, V.nilfn⟩) .nil)) (some ⟨(.struct [(0, 3), (1, 3), (2, 3), (3, 3), (4, 4), (5, 34)]), 6, 40, V.agg [V.int .i64 0, V.int .i64 0, V.int .i64 0, V.int .i64 0, V.bool false, V.int .u8 0]⟩) (.node (.node .nil (some ⟨.func, 1, 8, V.nilfn⟩) .nil) (some ⟨.func, 1, 8, V.nilfn⟩) (.node .nil (some ⟨(.struct [(0, 5), (1, 190)]), 3, 3, V.agg [V.int .u8 0, V.int .u8 0, V.int .u8 0]⟩) .nil)))) none (.node (.node (.node (.node .nil (some ⟨.func, 1, 8, V.nilfn⟩) .nil) (some ⟨.func, 1, 8, V.nilfn⟩) (.node .nil (some ⟨.func, 1, 8, V.nilfn⟩) .nil)) (some ⟨(.struct [(0, 21), (1, 44), (3, 5), (4, 40), (13, 34)]), 14, 28, V.agg [V.int .i32 0, V.int .i32 0, V.int .i32 0, V.int .u8 0, V.int .u8 0, V.int .u8 0, V.int .u8 0, V.int .u8 0, V.int .u8 0, V.int .u8 0, V.int .u8 0, V.int .u8 0, V.int .u16 0, V.int .u8 0]⟩) (.node (.node .nil (some ⟨.func, 1, 8, V.nilfn⟩) .nil) (some ⟨(.struct [(0, 108), (1, 3), (2, 3), (3, 34)]), 4, 48, V.agg [V.nils, V.int .i64 0, V.int .i64 0, V.int .u8 0]⟩) (.node .nil (some ⟨(.ptr 46), 1, 8, V.nilp⟩) .nil))) none (.node (.node .nil (some ⟨.func, 1, 8, V.nilfn⟩) (.node .nil (some ⟨(.int .u64), 1, 8, V.int .u64 0⟩) .nil)) (some ⟨.func, 1, 8, V.nilfn⟩) (.node (.node .nil (some ⟨(.struct [(0, 5), (1, 5)]), 2, 2, V.agg [V.int .u8 0, V.int .u8 0]⟩) .nil) none .nil)))))))
noncomputable def ftab : Tri (Option Func) :=
  (.node (.node (.node (.node (.node (.node (.node (.node .nil (some Tryz.f127) .nil) (some Tryz.f63) (.node .nil (some Tryz.f191) .nil)) (some Tryz.f31) (.node (.node .nil (some Tryz.f159) .nil) (some Tryz.f95) (.node .nil none .nil))) (some Tryz.f15) (.node (.node (.node .nil (some Tryz.f143) .nil) (some Tryz.f79) (.node .nil none .nil)) (some Tryz.f47) (.node (.node .nil (some Tryz.f175) .nil) (some Tryz.f111) (.node .nil none .nil)))) (some Tryz.f7) (.node (.node (.node (.node .nil (some Tryz.f135) .nil) (some Tryz.f71) (.node .nil none .nil)) (some Tryz.f39) (.node (.node .nil (some Tryz.f167) .nil) (some Tryz.f103) (.node .nil none .nil))) (some Tryz.f23) (.node (.node (.node .nil (some Tryz.f151) .nil) (some Tryz.f87) (.node .nil none .nil)) (some Tryz.f55) (.node (.node .nil (some Tryz.f183) .nil) (some Tryz.f119) (.node .nil none .nil))))) (some Tryz.f3) (.node (.node (.node (.node (.node .nil (some Tryz.f131) .nil) (some Tryz.f67) (.node .nil (some Tryz.f195) .nil)) (some Tryz.f35) (.node (.node .nil (some Tryz.f163) .nil) (some Tryz.f99) (.node .nil none .nil))) (some Tryz.f19) (.node (.node (.node .nil (some Tryz.f147) .nil) (some Tryz.f83) (.node .nil none .nil)) (some Tryz.f51) (.node (.node .nil (some Tryz.f179) .nil) (some Tryz.f115) (.node .nil none .nil)))) (some Tryz.f11) (.node (.node (.node (.node .nil (some Tryz.f139) .nil) (some Tryz.f75) (.node .nil none .nil)) (some Tryz.f43) (.node (.node .nil (some Tryz.f171) .nil) (some Tryz.f107) (.node .nil none .nil))) (some Tryz.f27) (.node (.node (.node .nil (some Tryz.f155) .nil) (some Tryz.f91) (.node .nil none .nil)) (some Tryz.f59) (.node (.node .nil (some Tryz.f187) .nil) (some Tryz.f123) (.node .nil none .nil)))))) (some Tryz.f1) (.node (.node (.node (.node (.node (.node .nil (some Tryz.f129) .nil) (some Tryz.f65) (.node .nil (some Tryz.f193) .nil)) (some Tryz.f33) (.node (.node .nil (some Tryz.f161) .nil) (some Tryz.f97) (.node .nil none .nil))) (some Tryz.f17) (.node (.node (.node .nil (some Tryz.f145) .nil) (some Tryz.f81) (.node .nil none .nil)) (some Tryz.f49) (.node (.node .nil (some Tryz.f177) .nil) (some Tryz.f113) (.node .nil none .nil)))) (some Tryz.f9) (.node (.node (.node (.node .nil (some Tryz.f137) .nil) (some Tryz.f73) (.node .nil none .nil)) (some Tryz.f41) (.node (.node .nil (some Tryz.f169) .nil) (some Tryz.f105) (.node .nil none .nil))) (some Tryz.f25) (.node (.node (.node .nil (some Tryz.f153) .nil) (some Tryz.f89) (.node .nil none .nil)) (some Tryz.f57) (.node (.node .nil (some Tryz.f185) .nil) (some Tryz.f121) (.node .nil none .nil))))) (some Tryz.f5) (.node (.node (.node (.node (.node .nil (some Tryz.f133) .nil) (some Tryz.f69) (.node .nil (some Tryz.f197) .nil)) (some Tryz.f37) (.node (.node .nil (some Tryz.f165) .nil) (some Tryz.f101) (.node .nil none .nil))) (some Tryz.f21) (.node (.node (.node .nil (some Tryz.f149) .nil) (some Tryz.f85) (.node .nil none .nil)) (some Tryz.f53) (.node (.node .nil (some Tryz.f181) .nil) (some Tryz.f117) (.node .nil none .nil)))) (some Tryz.f13) (.node (.node (.node (.node .nil (some Tryz.f141) .nil) (some Tryz.f77) (.node .nil none .nil)) (some Tryz.f45) (.node (.node .nil (some Tryz.f173) .nil) (some Tryz.f109) (.node .nil none .nil))) (some Tryz.f29) (.node (.node (.node .nil (some Tryz.f157) .nil) (some Tryz.f93) (.node .nil none .nil)) (some Tryz.f61) (.node (.node .nil (some Tryz.f189) .nil) (some Tryz.f125) (.node .nil none .nil))))))) (some Tryz.f0) (.node (.node (.node (.node (.node (.node (.node .nil (some Tryz.f128) .nil) (some Tryz.f64) (.node .nil (some Tryz.f192) .nil)) (some Tryz.f32) (.node (.node .nil (some Tryz.f160) .nil) (some Tryz.f96) (.node .nil none .nil))) (some Tryz.f16) (.node (.node (.node .nil (some Tryz.f144) .nil) (some Tryz.f80) (.node .nil none .nil)) (some Tryz.f48) (.node (.node .nil (some Tryz.f176) .nil) (some Tryz.f112) (.node .nil none .nil)))) (some Tryz.f8) (.node (.node (.node (.node .nil (some Tryz.f136) .nil) (some Tryz.f72) (.node .nil none .nil)) (some Tryz.f40) (.node (.node .nil (some Tryz.f168) .nil) (some Tryz.f104) (.node .nil none .nil))) (some Tryz.f24) (.node (.node (.node .nil (some Tryz.f152) .nil) (some Tryz.f88) (.node .nil none .nil)) (some Tryz.f56) (.node (.node .nil (some Tryz.f184) .nil) (some Tryz.f120) (.node .nil none .nil))))) (some Tryz.f4) (.node (.node (.node (.node (.node .nil (some Tryz.f132) .nil) (some Tryz.f68) (.node .nil (some Tryz.f196) .nil)) (some Tryz.f36) (.node (.node .nil (some Tryz.f164) .nil) (some Tryz.f100) (.node .nil none .nil))) (some Tryz.f20) (.node (.node (.node .nil (some Tryz.f148) .nil) (some Tryz.f84) (.node .nil none .nil)) (some Tryz.f52) (.node (.node .nil (some Tryz.f180) .nil) (some Tryz.f116) (.node .nil none .nil)))) (some Tryz.f12) (.node (.node (.node (.node .nil (some Tryz.f140) .nil) (some Tryz.f76) (.node .nil none .nil)) (some Tryz.f44) (.node (.node .nil (some Tryz.f172) .nil) (some Tryz.f108) (.node .nil none .nil))) (some Tryz.f28) (.node (.node (.node .nil (some Tryz.f156) .nil) (some Tryz.f92) (.node .nil none .nil)) (some Tryz.f60) (.node (.node .nil (some Tryz.f188) .nil) (some Tryz.f124) (.node .nil none .nil)))))) (some Tryz.f2) (.node (.node (.node (.node (.node (.node .nil (some Tryz.f130) .nil) (some Tryz.f66) (.node .nil (some Tryz.f194) .nil)) (some Tryz.f34) (.node (.node .nil (some Tryz.f162) .nil) (some Tryz.f98) (.node .nil none .nil))) (some Tryz.f18) (.node (.node (.node .nil (some Tryz.f146) .nil) (some Tryz.f82) (.node .nil none .nil)) (some Tryz.f50) (.node (.node .nil (some Tryz.f178) .nil) (some Tryz.f114) (.node .nil none .nil)))) (some Tryz.f10) (.node (.node (.node (.node .nil (some Tryz.f138) .nil) (some Tryz.f74) (.node .nil none .nil)) (some Tryz.f42) (.node (.node .nil (some Tryz.f170) .nil) (some Tryz.f106) (.node .nil none .nil))) (some Tryz.f26) (.node (.node (.node .nil (some Tryz.f154) .nil) (some Tryz.f90) (.node .nil none .nil)) (some Tryz.f58) (.node (.node .nil (some Tryz.f186) .nil) (some Tryz.f122) (.node .nil none .nil))))) (some Tryz.f6) (.node (.node (.node (.node (.node .nil (some Tryz.f134) .nil) (some Tryz.f70) (.node .nil (some Tryz.f198) .nil)) (some Tryz.f38) (.node (.node .nil (some Tryz.f166) .nil) (some Tryz.f102) (.node .nil none .nil))) (some Tryz.f22) (.node (.node (.node .nil (some Tryz.f150) .nil) (some Tryz.f86) (.node .nil none .nil)) (some Tryz.f54) (.node (.node .nil (some Tryz.f182) .nil) (some Tryz.f118) (.node .nil none .nil)))) (some Tryz.f14) (.node (.node (.node (.node .nil (some Tryz.f142) .nil) (some Tryz.f78) (.node .nil none .nil)) (some Tryz.f46) (.node (.node .nil (some Tryz.f174) .nil) (some Tryz.f110) (.node .nil none .nil))) (some Tryz.f30) (.node (.node (.node .nil (some Tryz.f158) .nil) (some Tryz.f94) (.node .nil none .nil)) (some Tryz.f62) (.node (.node .nil (some Tryz.f190) .nil) (some Tryz.f126) (.node .nil none .nil))))))))
-- depth 8
theorem tysOk : TOk Tryz.prog (tysT.get none) := TOk.of_tri (by kernel_rfl)
theorem fOk : FOk Tryz.prog (ftab.get none) := FOk.of_build 8 (by kernel_rfl) (by kernel_rfl)
theorem mixed : Tryz.prog.follows .mixedOrders = true := by kernel_rfl
end Go.Cx
/- Rows of cells in plain Lean: whole rows, and what keeps them whole (no program in sight). -/
namespace Go.Row

structure At where
  (fk fr fg fb bk br bg bb fl : Int)
  deriving DecidableEq

structure Cl where
  (rune m0 m1 kind : Int) (attr : At) (lab : Int)
  deriving DecidableEq

def half (c : Cl) : Cl := ⟨0, 0, 0, 2, c.attr, c.lab⟩
def bare (c : Cl) : Cl := ⟨0, 0, 0, 0, c.attr, c.lab⟩

inductive Whole : List Cl → Prop
  | nil : Whole []
  | one {c r} : c.kind = 0 → Whole r → Whole (c :: r)
  | two {c r} : c.kind = 1 → Whole r → Whole (c :: half c :: r)

theorem Whole.append {a b : List Cl} (ha : Whole a) (hb : Whole b) : Whole (a ++ b) := by
  induction ha with
  | nil => exact hb
  | one h _ ih => exact .one h ih
  | two h _ ih => exact .two h ih

theorem Whole.inv {c : Cl} {r : List Cl} (h : Whole (c :: r)) : (c.kind = 0 ∧ Whole r) ∨ ∃ s, r = half c :: s ∧ c.kind = 1 ∧ Whole s := by
  cases h with
  | one h1 h2 => exact .inl ⟨h1, h2⟩
  | two h1 h2 => exact .inr ⟨_, rfl, h1, h2⟩

theorem Whole.rest {a b : List Cl} (ha : Whole a) (h : Whole (a ++ b)) : Whole b := by
  induction ha with
  | nil => exact h
  | @one c r h1 _ ih =>
    rcases Whole.inv (r := r ++ b) h with ⟨_, h2⟩ | ⟨_, _, h2, _⟩
    · exact ih h2
    · rw [h1] at h2; cases h2
  | @two c r h1 _ ih =>
    rcases Whole.inv (r := half c :: (r ++ b)) h with ⟨h2, _⟩ | ⟨s, h3, _, h2⟩
    · rw [h1] at h2; cases h2
    · simp only [List.cons.injEq, true_and] at h3
      rw [← h3] at h2
      exact ih h2

theorem Whole.all {r : List Cl} (h : ∀ c ∈ r, c.kind = 0) : Whole r := by
  induction r with
  | nil => exact .nil
  | cons c r ih => exact .one (h c (by simp)) (ih fun d hd => h d (by simp [hd]))

theorem Whole.replicate {n : Nat} {c : Cl} (h : c.kind = 0) : Whole (List.replicate n c) := .all fun d hd => by rw [(List.mem_replicate.1 hd).2]; exact h

/-- A row cut somewhere: between cells, or through a wide one. -/
theorem Whole.cut {r : List Cl} (h : Whole r) : ∀ (i : Nat), i ≤ r.length → (Whole (r.take i) ∧ Whole (r.drop i)) ∨
    ∃ a c b, r = a ++ c :: half c :: b ∧ a.length + 1 = i ∧ c.kind = 1 ∧ Whole a ∧ Whole b := by
  induction h with
  | nil => intro i _; left; simp only [List.take_nil, List.drop_nil]; exact ⟨.nil, .nil⟩
  | @one c r hc hr ih =>
    intro i hi
    cases i with
    | zero => left; exact ⟨.nil, .one hc hr⟩
    | succ i =>
      rcases ih i (by simpa using hi) with ⟨h1, h2⟩ | ⟨a, d, b, h1, h2, h3, h4, h5⟩
      · left; exact ⟨.one hc h1, h2⟩
      · right; exact ⟨c :: a, d, b, by rw [h1]; rfl, by simp [h2], h3, .one hc h4, h5⟩
  | @two c r hc hr ih =>
    intro i hi
    match i with
    | 0 => left; exact ⟨.nil, .two hc hr⟩
    | 1 => right; exact ⟨[], c, r, rfl, rfl, hc, .nil, hr⟩
    | i + 2 =>
      rcases ih i (by simpa using hi) with ⟨h1, h2⟩ | ⟨a, d, b, h1, h2, h3, h4, h5⟩
      · left; exact ⟨.two hc h1, h2⟩
      · right; exact ⟨c :: half c :: a, d, b, by rw [h1]; rfl, by simp [h2], h3, .two hc h4, h5⟩

/-- One boundary broken. -/
def brk (r : List Cl) (i : Nat) : List Cl :=
  match r.drop (i - 1) with
  | c :: d :: b => if 0 < i ∧ c.kind = 1 ∧ d.kind = 2 then r.take (i - 1) ++ bare c :: bare d :: b else r
  | _ => r

theorem brk_length (r : List Cl) (i : Nat) : (brk r i).length = r.length := by
  unfold brk
  split
  · rename_i c d b h
    split
    · have := congrArg List.length h
      simp at this ⊢
      omega
    · rfl
  · rfl

theorem brk_at {a b : List Cl} {c : Cl} (hc : c.kind = 1) : brk (a ++ c :: half c :: b) (a.length + 1) = a ++ bare c :: bare (half c) :: b := by
  unfold brk
  rw [show a.length + 1 - 1 = a.length from rfl, List.drop_left, List.take_left]
  simp only
  rw [if_pos ⟨Nat.succ_pos _, hc, rfl⟩]

/-- No whole part ends in a left half. -/
theorem Whole.last {a : List Cl} {c : Cl} (h : Whole (a ++ [c])) : c.kind ≠ 1 := by
  have key : ∀ r : List Cl, Whole r → ∀ a : List Cl, r = a ++ [c] → c.kind ≠ 1 := by
    intro r hr
    induction hr with
    | nil => intro a ha; cases a <;> cases ha
    | @one d r hd hr ih =>
      intro a ha
      cases a with
      | nil => simp only [List.nil_append, List.cons.injEq] at ha; rw [← ha.1, hd]; decide
      | cons x a => simp only [List.cons_append, List.cons.injEq] at ha; exact ih a ha.2
    | @two d r hd hr ih =>
      intro a ha
      match a with
      | [] => simp at ha
      | [x] => simp only [List.cons_append, List.nil_append, List.cons.injEq] at ha; rw [← ha.2.1]; show (2 : Int) ≠ 1; decide
      | x :: y :: a => simp only [List.cons_append, List.cons.injEq] at ha; exact ih a ha.2.2
  exact key _ h a rfl

theorem brk_no {r : List Cl} {i : Nat} (h : Whole (r.take i)) : brk r i = r := by
  unfold brk
  split
  · rename_i c d b hd
    rw [if_neg]
    rintro ⟨h0, h1, _⟩
    have hl : r.take i = r.take (i - 1) ++ [c] := by
      have h2 : r.take (i - 1 + 1) = r.take (i - 1) ++ (r.drop (i - 1)).take 1 := List.take_add
      rw [show i - 1 + 1 = i by omega, hd] at h2
      simpa using h2
    rw [hl] at h
    exact h.last h1
  · rfl

/-- Behind a break, both parts are whole. -/
theorem brk_cut {r : List Cl} (h : Whole r) {i : Nat} (hi : i ≤ r.length) : Whole ((brk r i).take i) ∧ Whole ((brk r i).drop i) := by
  rcases h.cut i hi with ⟨h1, h2⟩ | ⟨a, c, b, rfl, rfl, hc, ha, hb⟩
  · rw [brk_no h1]; exact ⟨h1, h2⟩
  · rw [brk_at hc]
    have e : a ++ bare c :: bare (half c) :: b = (a ++ [bare c]) ++ (bare (half c) :: b) := by simp
    have l : a.length + 1 = (a ++ [bare c]).length := by simp
    rw [e, l, List.take_left, List.drop_left]
    exact ⟨ha.append (.one rfl .nil), .one rfl hb⟩

theorem brk_right {a b : List Cl} (ha : Whole a) (i : Nat) : brk (a ++ b) (a.length + i) = a ++ brk b i := by
  cases i with
  | zero =>
    have h1 : brk (a ++ b) (a.length + 0) = a ++ b := brk_no (by rw [Nat.add_zero, List.take_left]; exact ha)
    have h2 : brk b 0 = b := brk_no (by rw [List.take_zero]; exact .nil)
    rw [h1, h2]
  | succ i =>
    unfold brk
    rw [show a.length + (i + 1) - 1 = a.length + i by omega, show i + 1 - 1 = i from rfl]
    rw [List.drop_append, List.take_append]
    simp only [Nat.add_sub_cancel_left]
    rw [List.drop_eq_nil_of_le (Nat.le_add_right _ _), List.take_of_length_le (Nat.le_add_right _ _), List.nil_append]
    split
    · simp only [Nat.succ_pos, true_and, Nat.add_pos_iff_pos_or_pos, or_true]
      split <;> simp
    · rfl

/-- Broken at two boundaries, the one not behind the other: three whole parts. -/
theorem brk_brk {r : List Cl} (h : Whole r) {i j : Nat} (hij : i ≤ j) (hj : j ≤ r.length) : ∃ a b c, brk (brk r i) j = a ++ b ++ c ∧ a.length = i ∧ (a ++ b).length = j ∧ Whole a ∧ Whole b ∧ Whole c := by
  obtain ⟨h1, h2⟩ := brk_cut h (Nat.le_trans hij hj)
  have hl := brk_length r i
  generalize brk r i = s at *
  have e : s = s.take i ++ s.drop i := (List.take_append_drop i s).symm
  have la : (s.take i).length = i := by rw [List.length_take]; omega
  obtain ⟨k, rfl⟩ : ∃ k, j = i + k := ⟨j - i, by omega⟩
  have hk : k ≤ (s.drop i).length := by rw [List.length_drop]; omega
  obtain ⟨h3, h4⟩ := brk_cut h2 hk
  have e2 : brk s (i + k) = s.take i ++ brk (s.drop i) k := by
    have := brk_right (b := s.drop i) h1 k
    rw [la, ← e] at this
    exact this
  refine ⟨s.take i, (brk (s.drop i) k).take k, (brk (s.drop i) k).drop k, ?_, la, ?_, h1, h3, h4⟩
  · rw [e2, List.append_assoc, List.take_append_drop]
  · rw [List.length_append, la, List.length_take, brk_length]; omega
end Go.Row
/- What is done to rows keeps them whole, and as long (plain Lean). -/
namespace Go.Row

/-- Broken at two boundaries; the parts. -/
def b2 (r : List Cl) (i j : Nat) : List Cl := brk (brk r i) j
theorem b2_length (r : List Cl) (i j : Nat) : (b2 r i j).length = r.length := by unfold b2; rw [brk_length, brk_length]
theorem b2_parts {r : List Cl} (h : Whole r) {i j : Nat} (hij : i ≤ j) (hj : j ≤ r.length) :
    Whole ((b2 r i j).take i) ∧ Whole (((b2 r i j).drop i).take (j - i)) ∧ Whole ((b2 r i j).drop j) := by
  obtain ⟨a, b, c, h1, rfl, rfl, ha, hb, hc⟩ := brk_brk h hij hj
  unfold b2
  rw [h1]
  refine ⟨?_, ?_, ?_⟩
  · rw [List.append_assoc, List.take_left]; exact ha
  · rw [List.append_assoc, List.drop_left, List.length_append, Nat.add_sub_cancel_left, List.take_left]; exact hb
  · rw [List.drop_left]; exact hc

/-- Cells put in the place of some. -/
def over (r : List Cl) (i j : Nat) (x : List Cl) : List Cl := (b2 r i j).take i ++ x ++ (b2 r i j).drop j
theorem over_whole {r x : List Cl} (h : Whole r) (hx : Whole x) {i j : Nat} (hij : i ≤ j) (hj : j ≤ r.length) : Whole (over r i j x) := by
  obtain ⟨ha, _, hc⟩ := b2_parts h hij hj
  exact (ha.append hx).append hc
theorem over_length {r x : List Cl} {i j : Nat} (hij : i ≤ j) (hj : j ≤ r.length) (hx : x.length = j - i) : (over r i j x).length = r.length := by
  unfold over
  rw [List.length_append, List.length_append, List.length_take, List.length_drop, b2_length, hx]
  omega

def cells (c : Cl) (wide : Bool) : List Cl := if wide then [{ c with kind := 1 }, half c] else [{ c with kind := 0 }]
theorem cells_whole (c : Cl) (wide : Bool) : Whole (cells c wide) := by
  unfold cells
  split
  · exact Whole.two (c := { c with kind := 1 }) rfl .nil
  · exact .one rfl .nil

def rput (r : List Cl) (i : Nat) (c : Cl) (wide : Bool) : List Cl := if i + (cells c wide).length ≤ r.length then over r i (i + (cells c wide).length) (cells c wide) else r
theorem rput_whole {r : List Cl} (h : Whole r) (i : Nat) (c : Cl) (wide : Bool) : Whole (rput r i c wide) := by
  unfold rput
  split
  · exact over_whole h (cells_whole c wide) (Nat.le_add_right _ _) (by assumption)
  · exact h
theorem rput_length (r : List Cl) (i : Nat) (c : Cl) (wide : Bool) : (rput r i c wide).length = r.length := by
  unfold rput
  split
  · exact over_length (Nat.le_add_right _ _) (by assumption) (by omega)
  · rfl

def rerase (r : List Cl) (i j : Nat) (b : Cl) : List Cl := over r i j (List.replicate (j - i) b)
theorem rerase_whole {r : List Cl} (h : Whole r) {b : Cl} (hb : b.kind = 0) {i j : Nat} (hij : i ≤ j) (hj : j ≤ r.length) : Whole (rerase r i j b) := over_whole h (.replicate hb) hij hj
theorem rerase_length {r : List Cl} {b : Cl} {i j : Nat} (hij : i ≤ j) (hj : j ≤ r.length) : (rerase r i j b).length = r.length := over_length hij hj (by simp)

/-- n blanks at i: those at the end go. -/
def rinsert (r : List Cl) (i n : Nat) (b : Cl) : List Cl := (b2 r i (r.length - n)).take i ++ List.replicate n b ++ ((b2 r i (r.length - n)).drop i).take (r.length - n - i)
theorem rinsert_whole {r : List Cl} (h : Whole r) {b : Cl} (hb : b.kind = 0) {i n : Nat} (hn : i + n ≤ r.length) : Whole (rinsert r i n b) := by
  obtain ⟨ha, hm, _⟩ := b2_parts h (i := i) (j := r.length - n) (by omega) (by omega)
  exact (ha.append (.replicate hb)).append hm
theorem rinsert_length {r : List Cl} {b : Cl} {i n : Nat} (hn : i + n ≤ r.length) : (rinsert r i n b).length = r.length := by
  unfold rinsert
  simp only [List.length_append, List.length_take, List.length_drop, List.length_replicate, b2_length]
  omega

/-- n cells at i go; blanks come at the end. -/
def rdelete (r : List Cl) (i n : Nat) (b : Cl) : List Cl := (b2 r i (i + n)).take i ++ (b2 r i (i + n)).drop (i + n) ++ List.replicate n b
theorem rdelete_whole {r : List Cl} (h : Whole r) {b : Cl} (hb : b.kind = 0) {i n : Nat} (hn : i + n ≤ r.length) : Whole (rdelete r i n b) := by
  obtain ⟨ha, _, hc⟩ := b2_parts h (i := i) (j := i + n) (by omega) hn
  exact (ha.append hc).append (.replicate hb)
theorem rdelete_length {r : List Cl} {b : Cl} {i n : Nat} (hn : i + n ≤ r.length) : (rdelete r i n b).length = r.length := by
  unfold rdelete
  simp only [List.length_append, List.length_take, List.length_drop, List.length_replicate, b2_length]
  omega

def rresize (r : List Cl) (n : Nat) (b : Cl) : List Cl := (brk r n).take n ++ List.replicate (n - r.length) b
theorem rresize_whole {r : List Cl} (h : Whole r) {b : Cl} (hb : b.kind = 0) (n : Nat) : Whole (rresize r n b) := by
  unfold rresize
  refine Whole.append ?_ (.replicate hb)
  rcases Nat.lt_or_ge r.length n with h1 | h1
  · have e : brk r n = r := by
      rw [brk_no (by rw [List.take_of_length_le (by omega)]; exact h)]
    rw [e, List.take_of_length_le (by omega)]
    exact h
  · exact (brk_cut h h1).1
theorem rresize_length (r : List Cl) (n : Nat) (b : Cl) : (rresize r n b).length = n := by
  unfold rresize
  simp only [List.length_append, List.length_take, List.length_replicate, brk_length]
  omega

/-- Labels changed: of a wide cell's two halves alike. -/
theorem Whole.map {f : Cl → Cl} (hk : ∀ c, (f c).kind = c.kind) (hh : ∀ c, f (half c) = half (f c)) {r : List Cl} (h : Whole r) : Whole (r.map f) := by
  induction h with
  | nil => exact .nil
  | one h1 _ ih => exact .one (by rw [hk]; exact h1) ih
  | @two c r h1 _ ih =>
    rw [List.map_cons, List.map_cons, hh]
    exact .two (by rw [hk]; exact h1) ih

def relabel (l : Int → Int) (c : Cl) : Cl := { c with lab := l c.lab }
theorem relabel_whole {l : Int → Int} {r : List Cl} (h : Whole r) : Whole (r.map (relabel l)) := h.map (f := relabel l) (fun _ => rfl) fun _ => rfl
end Go.Row
