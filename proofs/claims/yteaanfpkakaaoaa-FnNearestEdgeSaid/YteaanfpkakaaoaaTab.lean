/- The table of the types of this translation. Written by a program (gentab.py). -/
import Derived.Test.YteaanfpkakaaoaaProg
import Derived.Test.YteaanfpkakaaoaaCb
set_option linter.unusedVariables false
set_option linter.unusedSimpArgs false
set_option maxRecDepth 100000
namespace Go.Proofs.Yteaanfpkakaaoaa
open Go Go.Ideal

def tabL : List (Nat × TD) := [(2, { size := 1, bytes := 8, ik := some .i64, zero := [.num .i64 0] }),
  (3, { size := 1, bytes := 8, ik := some .i64, zero := [.num .i64 0] }),
  (4, { size := 1, bytes := 1, bl := true, zero := [.bool false] }),
  (5, { size := 1, bytes := 1, ik := some .u8, zero := [.num .u8 0] }),
  (9, { size := 1, bytes := 16, st := true, zero := [.str (ByteArray.mk #[])] }),
  (12, { size := 1, bytes := 8, ik := some .u64, zero := [.num .u64 0] }),
  (21, { size := 1, bytes := 4, ik := some .i32, zero := [.num .i32 0] }),
  (22, { size := 1, bytes := 24, elem := 5, zero := [.nils] }),
  (23, { size := 1, bytes := 24, elem := 34, zero := [.nils] }),
  (25, { size := 1, bytes := 24, elem := 31, zero := [.nils] }),
  (30, { size := 3, bytes := 24, offs := [(0, 1), (1, 1), (2, 1)], zero := [.num .i64 0, .num .i64 0, .num .i64 0], eqb := true }),
  (31, { size := 3, bytes := 24, offs := [(0, 1), (1, 1), (2, 1)], zero := [.num .i64 0, .num .i64 0, .num .i64 0], eqb := true }),
  (33, { size := 2, bytes := 16, offs := [(0, 1), (1, 1)], zero := [.num .i64 0, .num .i64 0], eqb := true }),
  (34, { size := 2, bytes := 16, offs := [(0, 1), (1, 1)], zero := [.num .i64 0, .num .i64 0], eqb := true }),
  (36, { size := 1, bytes := 24, elem := 58, zero := [.nils] }),
  (38, { size := 1, bytes := 24, elem := 55, zero := [.nils] }),
  (47, { size := 1, bytes := 8, zero := [.nilp] }),
  (52, { size := 1, bytes := 8, zero := [.junk] }),
  (55, { size := 1, bytes := 24, elem := 3, zero := [.nils] }),
  (58, { size := 2, bytes := 16, offs := [(0, 1), (1, 1)], zero := [.num .i64 0, .num .i64 0], eqb := true }),
  (64, { size := 2, bytes := 32, offs := [(0, 1), (1, 1)], zero := [.nils, .num .i64 0] }),
  (65, { size := 2, bytes := 32, offs := [(0, 1), (1, 1)], zero := [.nils, .num .i64 0] }),
  (67, { size := 1, bytes := 24, elem := 4, zero := [.nils] }),
  (69, { size := 3, bytes := 24, zero := [.num .i64 0, .num .i64 0, .num .i64 0], alen := 3, aelem := 3, aoffs := [(0, 1), (1, 1), (2, 1)] }),
  (88, { size := 4, bytes := 32, offs := [(0, 2), (2, 2)], zero := [.num .i64 0, .num .i64 0, .num .i64 0, .num .i64 0], eqb := true }),
  (89, { size := 4, bytes := 32, offs := [(0, 2), (2, 2)], zero := [.num .i64 0, .num .i64 0, .num .i64 0, .num .i64 0], eqb := true }),
  (90, { size := 1, bytes := 24, elem := 23, zero := [.nils] }),
  (94, { size := 1, bytes := 8, ik := some .u64, zero := [.num .u64 0] }),
  (98, { size := 1, bytes := 8, ik := some .i64, zero := [.num .i64 0] }),
  (106, { size := 1, bytes := 4, ik := some .u32, zero := [.num .u32 0] }),
  (108, { size := 1, bytes := 8, ik := some .u64, zero := [.num .u64 0] }),
  (110, { size := 1, bytes := 8, ik := some .u64, zero := [.num .u64 0] }),
  (114, { size := 1, bytes := 8, zero := [.nilp] }),
  (116, { size := 1, bytes := 8, zero := [.nilp] }),
  (129, { size := 1, bytes := 8, zero := [.nilp] })]
def tab : Nat → TD := lkD tabL

theorem tab2 : tab 2 = { size := 1, bytes := 8, ik := some .i64, zero := [.num .i64 0] } := rfl
theorem tab3 : tab 3 = { size := 1, bytes := 8, ik := some .i64, zero := [.num .i64 0] } := rfl
theorem tab4 : tab 4 = { size := 1, bytes := 1, bl := true, zero := [.bool false] } := rfl
theorem tab5 : tab 5 = { size := 1, bytes := 1, ik := some .u8, zero := [.num .u8 0] } := rfl
theorem tab9 : tab 9 = { size := 1, bytes := 16, st := true, zero := [.str (ByteArray.mk #[])] } := rfl
theorem tab12 : tab 12 = { size := 1, bytes := 8, ik := some .u64, zero := [.num .u64 0] } := rfl
theorem tab21 : tab 21 = { size := 1, bytes := 4, ik := some .i32, zero := [.num .i32 0] } := rfl
theorem tab22 : tab 22 = { size := 1, bytes := 24, elem := 5, zero := [.nils] } := rfl
theorem tab23 : tab 23 = { size := 1, bytes := 24, elem := 34, zero := [.nils] } := rfl
theorem tab25 : tab 25 = { size := 1, bytes := 24, elem := 31, zero := [.nils] } := rfl
theorem tab30 : tab 30 = { size := 3, bytes := 24, offs := [(0, 1), (1, 1), (2, 1)], zero := [.num .i64 0, .num .i64 0, .num .i64 0], eqb := true } := rfl
theorem tab31 : tab 31 = { size := 3, bytes := 24, offs := [(0, 1), (1, 1), (2, 1)], zero := [.num .i64 0, .num .i64 0, .num .i64 0], eqb := true } := rfl
theorem tab33 : tab 33 = { size := 2, bytes := 16, offs := [(0, 1), (1, 1)], zero := [.num .i64 0, .num .i64 0], eqb := true } := rfl
theorem tab34 : tab 34 = { size := 2, bytes := 16, offs := [(0, 1), (1, 1)], zero := [.num .i64 0, .num .i64 0], eqb := true } := rfl
theorem tab36 : tab 36 = { size := 1, bytes := 24, elem := 58, zero := [.nils] } := rfl
theorem tab38 : tab 38 = { size := 1, bytes := 24, elem := 55, zero := [.nils] } := rfl
theorem tab47 : tab 47 = { size := 1, bytes := 8, zero := [.nilp] } := rfl
theorem tab52 : tab 52 = { size := 1, bytes := 8, zero := [.junk] } := rfl
theorem tab55 : tab 55 = { size := 1, bytes := 24, elem := 3, zero := [.nils] } := rfl
theorem tab58 : tab 58 = { size := 2, bytes := 16, offs := [(0, 1), (1, 1)], zero := [.num .i64 0, .num .i64 0], eqb := true } := rfl
theorem tab64 : tab 64 = { size := 2, bytes := 32, offs := [(0, 1), (1, 1)], zero := [.nils, .num .i64 0] } := rfl
theorem tab65 : tab 65 = { size := 2, bytes := 32, offs := [(0, 1), (1, 1)], zero := [.nils, .num .i64 0] } := rfl
theorem tab67 : tab 67 = { size := 1, bytes := 24, elem := 4, zero := [.nils] } := rfl
theorem tab69 : tab 69 = { size := 3, bytes := 24, zero := [.num .i64 0, .num .i64 0, .num .i64 0], alen := 3, aelem := 3, aoffs := [(0, 1), (1, 1), (2, 1)] } := rfl
theorem tab88 : tab 88 = { size := 4, bytes := 32, offs := [(0, 2), (2, 2)], zero := [.num .i64 0, .num .i64 0, .num .i64 0, .num .i64 0], eqb := true } := rfl
theorem tab89 : tab 89 = { size := 4, bytes := 32, offs := [(0, 2), (2, 2)], zero := [.num .i64 0, .num .i64 0, .num .i64 0, .num .i64 0], eqb := true } := rfl
theorem tab90 : tab 90 = { size := 1, bytes := 24, elem := 23, zero := [.nils] } := rfl
theorem tab94 : tab 94 = { size := 1, bytes := 8, ik := some .u64, zero := [.num .u64 0] } := rfl
theorem tab98 : tab 98 = { size := 1, bytes := 8, ik := some .i64, zero := [.num .i64 0] } := rfl
theorem tab106 : tab 106 = { size := 1, bytes := 4, ik := some .u32, zero := [.num .u32 0] } := rfl
theorem tab108 : tab 108 = { size := 1, bytes := 8, ik := some .u64, zero := [.num .u64 0] } := rfl
theorem tab110 : tab 110 = { size := 1, bytes := 8, ik := some .u64, zero := [.num .u64 0] } := rfl
theorem tab114 : tab 114 = { size := 1, bytes := 8, zero := [.nilp] } := rfl
theorem tab116 : tab 116 = { size := 1, bytes := 8, zero := [.nilp] } := rfl
theorem tab129 : tab 129 = { size := 1, bytes := 8, zero := [.nilp] } := rfl

theorem inf2 : (Try.prog.info? 2).map (fun i => (i.size, i.bytes, i.zero)) = some (1, 8, some (.int .i64 0)) := by kernel_rfl
theorem inf3 : (Try.prog.info? 3).map (fun i => (i.size, i.bytes, i.zero)) = some (1, 8, some (.int .i64 0)) := by kernel_rfl
theorem inf4 : (Try.prog.info? 4).map (fun i => (i.size, i.bytes, i.zero)) = some (1, 1, some (.bool false)) := by kernel_rfl
theorem inf5 : (Try.prog.info? 5).map (fun i => (i.size, i.bytes, i.zero)) = some (1, 1, some (.int .u8 0)) := by kernel_rfl
theorem inf9 : (Try.prog.info? 9).map (fun i => (i.size, i.bytes, i.zero)) = some (1, 16, some (.string (ByteArray.mk #[]))) := by kernel_rfl
theorem inf12 : (Try.prog.info? 12).map (fun i => (i.size, i.bytes, i.zero)) = some (1, 8, some (.int .u64 0)) := by kernel_rfl
theorem inf21 : (Try.prog.info? 21).map (fun i => (i.size, i.bytes, i.zero)) = some (1, 4, some (.int .i32 0)) := by kernel_rfl
theorem inf22 : (Try.prog.info? 22).map (fun i => (i.size, i.bytes, i.zero)) = some (1, 24, some (.slice none 0 0)) := by kernel_rfl
theorem inf23 : (Try.prog.info? 23).map (fun i => (i.size, i.bytes, i.zero)) = some (1, 24, some (.slice none 0 0)) := by kernel_rfl
theorem inf25 : (Try.prog.info? 25).map (fun i => (i.size, i.bytes, i.zero)) = some (1, 24, some (.slice none 0 0)) := by kernel_rfl
theorem inf30 : (Try.prog.info? 30).map (fun i => (i.size, i.bytes, i.zero)) = some (3, 24, some (.agg #[.int .i64 0, .int .i64 0, .int .i64 0])) := by kernel_rfl
theorem inf31 : (Try.prog.info? 31).map (fun i => (i.size, i.bytes, i.zero)) = some (3, 24, some (.agg #[.int .i64 0, .int .i64 0, .int .i64 0])) := by kernel_rfl
theorem inf33 : (Try.prog.info? 33).map (fun i => (i.size, i.bytes, i.zero)) = some (2, 16, some (.agg #[.int .i64 0, .int .i64 0])) := by kernel_rfl
theorem inf34 : (Try.prog.info? 34).map (fun i => (i.size, i.bytes, i.zero)) = some (2, 16, some (.agg #[.int .i64 0, .int .i64 0])) := by kernel_rfl
theorem inf36 : (Try.prog.info? 36).map (fun i => (i.size, i.bytes, i.zero)) = some (1, 24, some (.slice none 0 0)) := by kernel_rfl
theorem inf38 : (Try.prog.info? 38).map (fun i => (i.size, i.bytes, i.zero)) = some (1, 24, some (.slice none 0 0)) := by kernel_rfl
theorem inf47 : (Try.prog.info? 47).map (fun i => (i.size, i.bytes, i.zero)) = some (1, 8, some (.pointer none)) := by kernel_rfl
theorem inf52 : (Try.prog.info? 52).map (fun i => (i.size, i.bytes, i.zero)) = some (1, 8, some (.nilFunc)) := by kernel_rfl
theorem inf55 : (Try.prog.info? 55).map (fun i => (i.size, i.bytes, i.zero)) = some (1, 24, some (.slice none 0 0)) := by kernel_rfl
theorem inf58 : (Try.prog.info? 58).map (fun i => (i.size, i.bytes, i.zero)) = some (2, 16, some (.agg #[.int .i64 0, .int .i64 0])) := by kernel_rfl
theorem inf64 : (Try.prog.info? 64).map (fun i => (i.size, i.bytes, i.zero)) = some (2, 32, some (.agg #[.slice none 0 0, .int .i64 0])) := by kernel_rfl
theorem inf65 : (Try.prog.info? 65).map (fun i => (i.size, i.bytes, i.zero)) = some (2, 32, some (.agg #[.slice none 0 0, .int .i64 0])) := by kernel_rfl
theorem inf67 : (Try.prog.info? 67).map (fun i => (i.size, i.bytes, i.zero)) = some (1, 24, some (.slice none 0 0)) := by kernel_rfl
theorem inf69 : (Try.prog.info? 69).map (fun i => (i.size, i.bytes, i.zero)) = some (3, 24, some (.agg #[.int .i64 0, .int .i64 0, .int .i64 0])) := by kernel_rfl
theorem inf88 : (Try.prog.info? 88).map (fun i => (i.size, i.bytes, i.zero)) = some (4, 32, some (.agg #[.int .i64 0, .int .i64 0, .int .i64 0, .int .i64 0])) := by kernel_rfl
theorem inf89 : (Try.prog.info? 89).map (fun i => (i.size, i.bytes, i.zero)) = some (4, 32, some (.agg #[.int .i64 0, .int .i64 0, .int .i64 0, .int .i64 0])) := by kernel_rfl
theorem inf90 : (Try.prog.info? 90).map (fun i => (i.size, i.bytes, i.zero)) = some (1, 24, some (.slice none 0 0)) := by kernel_rfl
theorem inf94 : (Try.prog.info? 94).map (fun i => (i.size, i.bytes, i.zero)) = some (1, 8, some (.int .u64 0)) := by kernel_rfl
theorem inf98 : (Try.prog.info? 98).map (fun i => (i.size, i.bytes, i.zero)) = some (1, 8, some (.int .i64 0)) := by kernel_rfl
theorem inf106 : (Try.prog.info? 106).map (fun i => (i.size, i.bytes, i.zero)) = some (1, 4, some (.int .u32 0)) := by kernel_rfl
theorem inf108 : (Try.prog.info? 108).map (fun i => (i.size, i.bytes, i.zero)) = some (1, 8, some (.int .u64 0)) := by kernel_rfl
theorem inf110 : (Try.prog.info? 110).map (fun i => (i.size, i.bytes, i.zero)) = some (1, 8, some (.int .u64 0)) := by kernel_rfl
theorem inf114 : (Try.prog.info? 114).map (fun i => (i.size, i.bytes, i.zero)) = some (1, 8, some (.pointer none)) := by kernel_rfl
theorem inf116 : (Try.prog.info? 116).map (fun i => (i.size, i.bytes, i.zero)) = some (1, 8, some (.pointer none)) := by kernel_rfl
theorem inf129 : (Try.prog.info? 129).map (fun i => (i.size, i.bytes, i.zero)) = some (1, 8, some (.pointer none)) := by kernel_rfl
theorem ty2 : TyOK Try.prog 2 { size := 1, bytes := 8, ik := some .i64, zero := [.num .i64 0] } := by
  have hu := Try.underlying2
  refine tyOK_mk inf2 hu (by simp [EltOk, Value.cells, Value.oneCell', isAggV]) (fun c => by simp [Value.cells, RepL, RepV]) (by intro w; simp [isAgg, run_underlying hu]) (by intro h; exact absurd rfl h) (by intro i x s h; simp at h) (by intro h; exact absurd rfl h) (by intro k h; simp at h; subst h; exact hu) (by intro h; simp at h) (by intro h; simp at h) (by intro h; simp at h) (by intro h; exact absurd rfl h)
theorem ty3 : TyOK Try.prog 3 { size := 1, bytes := 8, ik := some .i64, zero := [.num .i64 0] } := by
  have hu := Try.underlying3
  refine tyOK_mk inf3 hu (by simp [EltOk, Value.cells, Value.oneCell', isAggV]) (fun c => by simp [Value.cells, RepL, RepV]) (by intro w; simp [isAgg, run_underlying hu]) (by intro h; exact absurd rfl h) (by intro i x s h; simp at h) (by intro h; exact absurd rfl h) (by intro k h; simp at h; subst h; exact hu) (by intro h; simp at h) (by intro h; simp at h) (by intro h; simp at h) (by intro h; exact absurd rfl h)
theorem ty4 : TyOK Try.prog 4 { size := 1, bytes := 1, bl := true, zero := [.bool false] } := by
  have hu := Try.underlying4
  refine tyOK_mk inf4 hu (by simp [EltOk, Value.cells, Value.oneCell', isAggV]) (fun c => by simp [Value.cells, RepL, RepV]) (by intro w; simp [isAgg, run_underlying hu]) (by intro h; exact absurd rfl h) (by intro i x s h; simp at h) (by intro h; exact absurd rfl h) (by intro k h; simp at h) (by intro h; exact hu) (by intro h; simp at h) (by intro h; simp at h) (by intro h; exact absurd rfl h)
theorem ty5 : TyOK Try.prog 5 { size := 1, bytes := 1, ik := some .u8, zero := [.num .u8 0] } := by
  have hu := Try.underlying5
  refine tyOK_mk inf5 hu (by simp [EltOk, Value.cells, Value.oneCell', isAggV]) (fun c => by simp [Value.cells, RepL, RepV]) (by intro w; simp [isAgg, run_underlying hu]) (by intro h; exact absurd rfl h) (by intro i x s h; simp at h) (by intro h; exact absurd rfl h) (by intro k h; simp at h; subst h; exact hu) (by intro h; simp at h) (by intro h; simp at h) (by intro h; simp at h) (by intro h; exact absurd rfl h)
theorem ty9 : TyOK Try.prog 9 { size := 1, bytes := 16, st := true, zero := [.str (ByteArray.mk #[])] } := by
  have hu := Try.underlying9
  refine tyOK_mk inf9 hu (by simp [EltOk, Value.cells, Value.oneCell', isAggV]) (fun c => by simp [Value.cells, RepL, RepV]) (by intro w; simp [isAgg, run_underlying hu]) (by intro h; exact absurd rfl h) (by intro i x s h; simp at h) (by intro h; exact absurd rfl h) (by intro k h; simp at h) (by intro h; simp at h) (by intro h; exact hu) (by intro h; simp at h) (by intro h; exact absurd rfl h)
theorem ty12 : TyOK Try.prog 12 { size := 1, bytes := 8, ik := some .u64, zero := [.num .u64 0] } := by
  have hu := Try.underlying12
  refine tyOK_mk inf12 hu (by simp [EltOk, Value.cells, Value.oneCell', isAggV]) (fun c => by simp [Value.cells, RepL, RepV]) (by intro w; simp [isAgg, run_underlying hu]) (by intro h; exact absurd rfl h) (by intro i x s h; simp at h) (by intro h; exact absurd rfl h) (by intro k h; simp at h; subst h; exact hu) (by intro h; simp at h) (by intro h; simp at h) (by intro h; simp at h) (by intro h; exact absurd rfl h)
theorem ty21 : TyOK Try.prog 21 { size := 1, bytes := 4, ik := some .i32, zero := [.num .i32 0] } := by
  have hu := Try.underlying21
  refine tyOK_mk inf21 hu (by simp [EltOk, Value.cells, Value.oneCell', isAggV]) (fun c => by simp [Value.cells, RepL, RepV]) (by intro w; simp [isAgg, run_underlying hu]) (by intro h; exact absurd rfl h) (by intro i x s h; simp at h) (by intro h; exact absurd rfl h) (by intro k h; simp at h; subst h; exact hu) (by intro h; simp at h) (by intro h; simp at h) (by intro h; simp at h) (by intro h; exact absurd rfl h)
theorem ty22 : TyOK Try.prog 22 { size := 1, bytes := 24, elem := 5, zero := [.nils] } := by
  have hu := Try.underlying22
  refine tyOK_mk inf22 hu (by simp [EltOk, Value.cells, Value.oneCell', isAggV]) (fun c => by simp [Value.cells, RepL, RepV]) (by intro w; simp [isAgg, run_underlying hu]) (by intro h; exact hu) (by intro i x s h; simp at h) (by intro h; exact absurd rfl h) (by intro k h; simp at h) (by intro h; simp at h) (by intro h; simp at h) (by intro h; simp at h) (by intro h; exact absurd rfl h)
theorem ty23 : TyOK Try.prog 23 { size := 1, bytes := 24, elem := 34, zero := [.nils] } := by
  have hu := Try.underlying23
  refine tyOK_mk inf23 hu (by simp [EltOk, Value.cells, Value.oneCell', isAggV]) (fun c => by simp [Value.cells, RepL, RepV]) (by intro w; simp [isAgg, run_underlying hu]) (by intro h; exact hu) (by intro i x s h; simp at h) (by intro h; exact absurd rfl h) (by intro k h; simp at h) (by intro h; simp at h) (by intro h; simp at h) (by intro h; simp at h) (by intro h; exact absurd rfl h)
theorem ty25 : TyOK Try.prog 25 { size := 1, bytes := 24, elem := 31, zero := [.nils] } := by
  have hu := Try.underlying25
  refine tyOK_mk inf25 hu (by simp [EltOk, Value.cells, Value.oneCell', isAggV]) (fun c => by simp [Value.cells, RepL, RepV]) (by intro w; simp [isAgg, run_underlying hu]) (by intro h; exact hu) (by intro i x s h; simp at h) (by intro h; exact absurd rfl h) (by intro k h; simp at h) (by intro h; simp at h) (by intro h; simp at h) (by intro h; simp at h) (by intro h; exact absurd rfl h)
theorem ty36 : TyOK Try.prog 36 { size := 1, bytes := 24, elem := 58, zero := [.nils] } := by
  have hu := Try.underlying36
  refine tyOK_mk inf36 hu (by simp [EltOk, Value.cells, Value.oneCell', isAggV]) (fun c => by simp [Value.cells, RepL, RepV]) (by intro w; simp [isAgg, run_underlying hu]) (by intro h; exact hu) (by intro i x s h; simp at h) (by intro h; exact absurd rfl h) (by intro k h; simp at h) (by intro h; simp at h) (by intro h; simp at h) (by intro h; simp at h) (by intro h; exact absurd rfl h)
theorem ty38 : TyOK Try.prog 38 { size := 1, bytes := 24, elem := 55, zero := [.nils] } := by
  have hu := Try.underlying38
  refine tyOK_mk inf38 hu (by simp [EltOk, Value.cells, Value.oneCell', isAggV]) (fun c => by simp [Value.cells, RepL, RepV]) (by intro w; simp [isAgg, run_underlying hu]) (by intro h; exact hu) (by intro i x s h; simp at h) (by intro h; exact absurd rfl h) (by intro k h; simp at h) (by intro h; simp at h) (by intro h; simp at h) (by intro h; simp at h) (by intro h; exact absurd rfl h)
theorem ty47 : TyOK Try.prog 47 { size := 1, bytes := 8, zero := [.nilp] } := by
  have hu := Try.underlying47
  refine tyOK_mk inf47 hu (by simp [EltOk, Value.cells, Value.oneCell', isAggV]) (fun c => by simp [Value.cells, RepL, RepV]) (by intro w; simp [isAgg, run_underlying hu]) (by intro h; exact absurd rfl h) (by intro i x s h; simp at h) (by intro h; exact absurd rfl h) (by intro k h; simp at h) (by intro h; simp at h) (by intro h; simp at h) (by intro h; simp at h) (by intro h; exact absurd rfl h)
theorem ty52 : TyOK Try.prog 52 { size := 1, bytes := 8, zero := [.junk] } := by
  have hu := Try.underlying52
  refine tyOK_mk inf52 hu (by simp [EltOk, Value.cells, Value.oneCell', isAggV]) (fun c => by simp [Value.cells, RepL, RepV]) (by intro w; simp [isAgg, run_underlying hu]) (by intro h; exact absurd rfl h) (by intro i x s h; simp at h) (by intro h; exact absurd rfl h) (by intro k h; simp at h) (by intro h; simp at h) (by intro h; simp at h) (by intro h; simp at h) (by intro h; exact absurd rfl h)
theorem ty55 : TyOK Try.prog 55 { size := 1, bytes := 24, elem := 3, zero := [.nils] } := by
  have hu := Try.underlying55
  refine tyOK_mk inf55 hu (by simp [EltOk, Value.cells, Value.oneCell', isAggV]) (fun c => by simp [Value.cells, RepL, RepV]) (by intro w; simp [isAgg, run_underlying hu]) (by intro h; exact hu) (by intro i x s h; simp at h) (by intro h; exact absurd rfl h) (by intro k h; simp at h) (by intro h; simp at h) (by intro h; simp at h) (by intro h; simp at h) (by intro h; exact absurd rfl h)
theorem ty67 : TyOK Try.prog 67 { size := 1, bytes := 24, elem := 4, zero := [.nils] } := by
  have hu := Try.underlying67
  refine tyOK_mk inf67 hu (by simp [EltOk, Value.cells, Value.oneCell', isAggV]) (fun c => by simp [Value.cells, RepL, RepV]) (by intro w; simp [isAgg, run_underlying hu]) (by intro h; exact hu) (by intro i x s h; simp at h) (by intro h; exact absurd rfl h) (by intro k h; simp at h) (by intro h; simp at h) (by intro h; simp at h) (by intro h; simp at h) (by intro h; exact absurd rfl h)
theorem ty90 : TyOK Try.prog 90 { size := 1, bytes := 24, elem := 23, zero := [.nils] } := by
  have hu := Try.underlying90
  refine tyOK_mk inf90 hu (by simp [EltOk, Value.cells, Value.oneCell', isAggV]) (fun c => by simp [Value.cells, RepL, RepV]) (by intro w; simp [isAgg, run_underlying hu]) (by intro h; exact hu) (by intro i x s h; simp at h) (by intro h; exact absurd rfl h) (by intro k h; simp at h) (by intro h; simp at h) (by intro h; simp at h) (by intro h; simp at h) (by intro h; exact absurd rfl h)
theorem ty94 : TyOK Try.prog 94 { size := 1, bytes := 8, ik := some .u64, zero := [.num .u64 0] } := by
  have hu := Try.underlying94
  refine tyOK_mk inf94 hu (by simp [EltOk, Value.cells, Value.oneCell', isAggV]) (fun c => by simp [Value.cells, RepL, RepV]) (by intro w; simp [isAgg, run_underlying hu]) (by intro h; exact absurd rfl h) (by intro i x s h; simp at h) (by intro h; exact absurd rfl h) (by intro k h; simp at h; subst h; exact hu) (by intro h; simp at h) (by intro h; simp at h) (by intro h; simp at h) (by intro h; exact absurd rfl h)
theorem ty98 : TyOK Try.prog 98 { size := 1, bytes := 8, ik := some .i64, zero := [.num .i64 0] } := by
  have hu := Try.underlying98
  refine tyOK_mk inf98 hu (by simp [EltOk, Value.cells, Value.oneCell', isAggV]) (fun c => by simp [Value.cells, RepL, RepV]) (by intro w; simp [isAgg, run_underlying hu]) (by intro h; exact absurd rfl h) (by intro i x s h; simp at h) (by intro h; exact absurd rfl h) (by intro k h; simp at h; subst h; exact hu) (by intro h; simp at h) (by intro h; simp at h) (by intro h; simp at h) (by intro h; exact absurd rfl h)
theorem ty106 : TyOK Try.prog 106 { size := 1, bytes := 4, ik := some .u32, zero := [.num .u32 0] } := by
  have hu := Try.underlying106
  refine tyOK_mk inf106 hu (by simp [EltOk, Value.cells, Value.oneCell', isAggV]) (fun c => by simp [Value.cells, RepL, RepV]) (by intro w; simp [isAgg, run_underlying hu]) (by intro h; exact absurd rfl h) (by intro i x s h; simp at h) (by intro h; exact absurd rfl h) (by intro k h; simp at h; subst h; exact hu) (by intro h; simp at h) (by intro h; simp at h) (by intro h; simp at h) (by intro h; exact absurd rfl h)
theorem ty108 : TyOK Try.prog 108 { size := 1, bytes := 8, ik := some .u64, zero := [.num .u64 0] } := by
  have hu := Try.underlying108
  refine tyOK_mk inf108 hu (by simp [EltOk, Value.cells, Value.oneCell', isAggV]) (fun c => by simp [Value.cells, RepL, RepV]) (by intro w; simp [isAgg, run_underlying hu]) (by intro h; exact absurd rfl h) (by intro i x s h; simp at h) (by intro h; exact absurd rfl h) (by intro k h; simp at h; subst h; exact hu) (by intro h; simp at h) (by intro h; simp at h) (by intro h; simp at h) (by intro h; exact absurd rfl h)
theorem ty110 : TyOK Try.prog 110 { size := 1, bytes := 8, ik := some .u64, zero := [.num .u64 0] } := by
  have hu := Try.underlying110
  refine tyOK_mk inf110 hu (by simp [EltOk, Value.cells, Value.oneCell', isAggV]) (fun c => by simp [Value.cells, RepL, RepV]) (by intro w; simp [isAgg, run_underlying hu]) (by intro h; exact absurd rfl h) (by intro i x s h; simp at h) (by intro h; exact absurd rfl h) (by intro k h; simp at h; subst h; exact hu) (by intro h; simp at h) (by intro h; simp at h) (by intro h; simp at h) (by intro h; exact absurd rfl h)
theorem ty114 : TyOK Try.prog 114 { size := 1, bytes := 8, zero := [.nilp] } := by
  have hu := Try.underlying114
  refine tyOK_mk inf114 hu (by simp [EltOk, Value.cells, Value.oneCell', isAggV]) (fun c => by simp [Value.cells, RepL, RepV]) (by intro w; simp [isAgg, run_underlying hu]) (by intro h; exact absurd rfl h) (by intro i x s h; simp at h) (by intro h; exact absurd rfl h) (by intro k h; simp at h) (by intro h; simp at h) (by intro h; simp at h) (by intro h; simp at h) (by intro h; exact absurd rfl h)
theorem ty116 : TyOK Try.prog 116 { size := 1, bytes := 8, zero := [.nilp] } := by
  have hu := Try.underlying116
  refine tyOK_mk inf116 hu (by simp [EltOk, Value.cells, Value.oneCell', isAggV]) (fun c => by simp [Value.cells, RepL, RepV]) (by intro w; simp [isAgg, run_underlying hu]) (by intro h; exact absurd rfl h) (by intro i x s h; simp at h) (by intro h; exact absurd rfl h) (by intro k h; simp at h) (by intro h; simp at h) (by intro h; simp at h) (by intro h; simp at h) (by intro h; exact absurd rfl h)
theorem ty129 : TyOK Try.prog 129 { size := 1, bytes := 8, zero := [.nilp] } := by
  have hu := Try.underlying129
  refine tyOK_mk inf129 hu (by simp [EltOk, Value.cells, Value.oneCell', isAggV]) (fun c => by simp [Value.cells, RepL, RepV]) (by intro w; simp [isAgg, run_underlying hu]) (by intro h; exact absurd rfl h) (by intro i x s h; simp at h) (by intro h; exact absurd rfl h) (by intro k h; simp at h) (by intro h; simp at h) (by intro h; simp at h) (by intro h; simp at h) (by intro h; exact absurd rfl h)
theorem ty33 : TyOK Try.prog 33 { size := 2, bytes := 16, offs := [(0, 1), (1, 1)], zero := [.num .i64 0, .num .i64 0], eqb := true } := by
  have hu := Try.underlying33
  refine tyOK_mk inf33 hu (by simp [EltOk, Value.cells, Value.oneCell', isAggV]) (fun c => by simp [Value.cells, RepL, RepV]) (by intro w; simp [isAgg, run_underlying hu]) (by intro h; exact absurd rfl h) (by
    intro i x s h
    match i, h with
    | 0, h => simp at h; obtain ⟨rfl, rfl⟩ := h; exact ⟨_, _, hu, rfl, rfl, by decide, ty3.size, ty3.agg, rfl⟩
    | 1, h => simp at h; obtain ⟨rfl, rfl⟩ := h; exact ⟨_, _, hu, rfl, rfl, by decide, ty3.size, ty3.agg, rfl⟩
    | n + 2, h => simp at h) (by intro _; exact ⟨_, hu, fun w => by simp [ty3.size]⟩) (by intro k h; simp at h) (by intro h; simp at h) (by intro h; simp at h) (fun _ => eqg_flat (by kernel_rfl) (by kernel_rfl) hu 2 (key2 ⟨by decide, Try.underlying3⟩ ⟨by decide, Try.underlying3⟩ rfl rfl)) (by intro h; exact absurd rfl h)
theorem ty34 : TyOK Try.prog 34 { size := 2, bytes := 16, offs := [(0, 1), (1, 1)], zero := [.num .i64 0, .num .i64 0], eqb := true } := by
  have hu := Try.underlying34
  refine tyOK_mk inf34 hu (by simp [EltOk, Value.cells, Value.oneCell', isAggV]) (fun c => by simp [Value.cells, RepL, RepV]) (by intro w; simp [isAgg, run_underlying hu]) (by intro h; exact absurd rfl h) (by
    intro i x s h
    match i, h with
    | 0, h => simp at h; obtain ⟨rfl, rfl⟩ := h; exact ⟨_, _, hu, rfl, rfl, by decide, ty3.size, ty3.agg, rfl⟩
    | 1, h => simp at h; obtain ⟨rfl, rfl⟩ := h; exact ⟨_, _, hu, rfl, rfl, by decide, ty3.size, ty3.agg, rfl⟩
    | n + 2, h => simp at h) (by intro _; exact ⟨_, hu, fun w => by simp [ty3.size]⟩) (by intro k h; simp at h) (by intro h; simp at h) (by intro h; simp at h) (fun _ => eqg_flat (by kernel_rfl) (by kernel_rfl) hu 2 (key2 ⟨by decide, Try.underlying3⟩ ⟨by decide, Try.underlying3⟩ rfl rfl)) (by intro h; exact absurd rfl h)
theorem ty58 : TyOK Try.prog 58 { size := 2, bytes := 16, offs := [(0, 1), (1, 1)], zero := [.num .i64 0, .num .i64 0], eqb := true } := by
  have hu := Try.underlying58
  refine tyOK_mk inf58 hu (by simp [EltOk, Value.cells, Value.oneCell', isAggV]) (fun c => by simp [Value.cells, RepL, RepV]) (by intro w; simp [isAgg, run_underlying hu]) (by intro h; exact absurd rfl h) (by
    intro i x s h
    match i, h with
    | 0, h => simp at h; obtain ⟨rfl, rfl⟩ := h; exact ⟨_, _, hu, rfl, rfl, by decide, ty3.size, ty3.agg, rfl⟩
    | 1, h => simp at h; obtain ⟨rfl, rfl⟩ := h; exact ⟨_, _, hu, rfl, rfl, by decide, ty3.size, ty3.agg, rfl⟩
    | n + 2, h => simp at h) (by intro _; exact ⟨_, hu, fun w => by simp [ty3.size]⟩) (by intro k h; simp at h) (by intro h; simp at h) (by intro h; simp at h) (fun _ => eqg_flat (by kernel_rfl) (by kernel_rfl) hu 2 (key2 ⟨by decide, Try.underlying3⟩ ⟨by decide, Try.underlying3⟩ rfl rfl)) (by intro h; exact absurd rfl h)
theorem ty64 : TyOK Try.prog 64 { size := 2, bytes := 32, offs := [(0, 1), (1, 1)], zero := [.nils, .num .i64 0] } := by
  have hu := Try.underlying64
  refine tyOK_mk inf64 hu (by simp [EltOk, Value.cells, Value.oneCell', isAggV]) (fun c => by simp [Value.cells, RepL, RepV]) (by intro w; simp [isAgg, run_underlying hu]) (by intro h; exact absurd rfl h) (by
    intro i x s h
    match i, h with
    | 0, h => simp at h; obtain ⟨rfl, rfl⟩ := h; exact ⟨_, _, hu, rfl, rfl, by decide, ty22.size, ty22.agg, rfl⟩
    | 1, h => simp at h; obtain ⟨rfl, rfl⟩ := h; exact ⟨_, _, hu, rfl, rfl, by decide, ty3.size, ty3.agg, rfl⟩
    | n + 2, h => simp at h) (by intro _; exact ⟨_, hu, fun w => by simp [ty3.size, ty22.size]⟩) (by intro k h; simp at h) (by intro h; simp at h) (by intro h; simp at h) (by intro h; simp at h) (by intro h; exact absurd rfl h)
theorem ty65 : TyOK Try.prog 65 { size := 2, bytes := 32, offs := [(0, 1), (1, 1)], zero := [.nils, .num .i64 0] } := by
  have hu := Try.underlying65
  refine tyOK_mk inf65 hu (by simp [EltOk, Value.cells, Value.oneCell', isAggV]) (fun c => by simp [Value.cells, RepL, RepV]) (by intro w; simp [isAgg, run_underlying hu]) (by intro h; exact absurd rfl h) (by
    intro i x s h
    match i, h with
    | 0, h => simp at h; obtain ⟨rfl, rfl⟩ := h; exact ⟨_, _, hu, rfl, rfl, by decide, ty22.size, ty22.agg, rfl⟩
    | 1, h => simp at h; obtain ⟨rfl, rfl⟩ := h; exact ⟨_, _, hu, rfl, rfl, by decide, ty3.size, ty3.agg, rfl⟩
    | n + 2, h => simp at h) (by intro _; exact ⟨_, hu, fun w => by simp [ty3.size, ty22.size]⟩) (by intro k h; simp at h) (by intro h; simp at h) (by intro h; simp at h) (by intro h; simp at h) (by intro h; exact absurd rfl h)
theorem ty30 : TyOK Try.prog 30 { size := 3, bytes := 24, offs := [(0, 1), (1, 1), (2, 1)], zero := [.num .i64 0, .num .i64 0, .num .i64 0], eqb := true } := by
  have hu := Try.underlying30
  refine tyOK_mk inf30 hu (by simp [EltOk, Value.cells, Value.oneCell', isAggV]) (fun c => by simp [Value.cells, RepL, RepV]) (by intro w; simp [isAgg, run_underlying hu]) (by intro h; exact absurd rfl h) (by
    intro i x s h
    match i, h with
    | 0, h => simp at h; obtain ⟨rfl, rfl⟩ := h; exact ⟨_, _, hu, rfl, rfl, by decide, ty3.size, ty3.agg, rfl⟩
    | 1, h => simp at h; obtain ⟨rfl, rfl⟩ := h; exact ⟨_, _, hu, rfl, rfl, by decide, ty3.size, ty3.agg, rfl⟩
    | 2, h => simp at h; obtain ⟨rfl, rfl⟩ := h; exact ⟨_, _, hu, rfl, rfl, by decide, ty3.size, ty3.agg, rfl⟩
    | n + 3, h => simp at h) (by intro _; exact ⟨_, hu, fun w => by simp [ty3.size]⟩) (by intro k h; simp at h) (by intro h; simp at h) (by intro h; simp at h) (fun _ => eqg_flat (by kernel_rfl) (by kernel_rfl) hu 3 (key3 ⟨by decide, Try.underlying3⟩ ⟨by decide, Try.underlying3⟩ ⟨by decide, Try.underlying3⟩ rfl rfl rfl)) (by intro h; exact absurd rfl h)
theorem ty31 : TyOK Try.prog 31 { size := 3, bytes := 24, offs := [(0, 1), (1, 1), (2, 1)], zero := [.num .i64 0, .num .i64 0, .num .i64 0], eqb := true } := by
  have hu := Try.underlying31
  refine tyOK_mk inf31 hu (by simp [EltOk, Value.cells, Value.oneCell', isAggV]) (fun c => by simp [Value.cells, RepL, RepV]) (by intro w; simp [isAgg, run_underlying hu]) (by intro h; exact absurd rfl h) (by
    intro i x s h
    match i, h with
    | 0, h => simp at h; obtain ⟨rfl, rfl⟩ := h; exact ⟨_, _, hu, rfl, rfl, by decide, ty3.size, ty3.agg, rfl⟩
    | 1, h => simp at h; obtain ⟨rfl, rfl⟩ := h; exact ⟨_, _, hu, rfl, rfl, by decide, ty3.size, ty3.agg, rfl⟩
    | 2, h => simp at h; obtain ⟨rfl, rfl⟩ := h; exact ⟨_, _, hu, rfl, rfl, by decide, ty3.size, ty3.agg, rfl⟩
    | n + 3, h => simp at h) (by intro _; exact ⟨_, hu, fun w => by simp [ty3.size]⟩) (by intro k h; simp at h) (by intro h; simp at h) (by intro h; simp at h) (fun _ => eqg_flat (by kernel_rfl) (by kernel_rfl) hu 3 (key3 ⟨by decide, Try.underlying3⟩ ⟨by decide, Try.underlying3⟩ ⟨by decide, Try.underlying3⟩ rfl rfl rfl)) (by intro h; exact absurd rfl h)
theorem ty69 : TyOK Try.prog 69 { size := 3, bytes := 24, zero := [.num .i64 0, .num .i64 0, .num .i64 0], alen := 3, aelem := 3, aoffs := [(0, 1), (1, 1), (2, 1)] } := by
  have hu := Try.underlying69
  refine tyOK_mk inf69 hu (by simp [EltOk, Value.cells, Value.oneCell', isAggV]) (fun c => by simp [Value.cells, RepL, RepV]) (by intro w; simp [isAgg, run_underlying hu]) (by intro h; exact absurd rfl h) (by intro i x s h; simp at h) (by intro h; exact absurd rfl h) (by intro k h; simp at h) (by intro h; simp at h) (by intro h; simp at h) (by intro h; simp at h) (by intro _; exact ⟨hu, ty3.size, rfl⟩)
theorem ty88 : TyOK Try.prog 88 { size := 4, bytes := 32, offs := [(0, 2), (2, 2)], zero := [.num .i64 0, .num .i64 0, .num .i64 0, .num .i64 0], eqb := true } := by
  have hu := Try.underlying88
  refine tyOK_mk inf88 hu (by simp [EltOk, Value.cells, Value.oneCell', isAggV]) (fun c => by simp [Value.cells, RepL, RepV]) (by intro w; simp [isAgg, run_underlying hu]) (by intro h; exact absurd rfl h) (by
    intro i x s h
    match i, h with
    | 0, h => simp at h; obtain ⟨rfl, rfl⟩ := h; exact ⟨_, _, hu, rfl, rfl, by decide, ty34.size, ty34.agg, rfl⟩
    | 1, h => simp at h; obtain ⟨rfl, rfl⟩ := h; exact ⟨_, _, hu, rfl, rfl, by decide, ty34.size, ty34.agg, rfl⟩
    | n + 2, h => simp at h) (by intro _; exact ⟨_, hu, fun w => by simp [ty34.size]⟩) (by intro k h; simp at h) (by intro h; simp at h) (by intro h; simp at h) (fun _ => eqg_flat2 (by kernel_rfl) (by kernel_rfl) hu 4 (fun d => key22 (by decide) (by decide) (by kernel_rfl) (by kernel_rfl) Try.underlying34 Try.underlying34 ty34.size ty34.size ⟨by decide, Try.underlying3⟩ ⟨by decide, Try.underlying3⟩ rfl rfl rfl rfl d)) (by intro h; exact absurd rfl h)
theorem ty89 : TyOK Try.prog 89 { size := 4, bytes := 32, offs := [(0, 2), (2, 2)], zero := [.num .i64 0, .num .i64 0, .num .i64 0, .num .i64 0], eqb := true } := by
  have hu := Try.underlying89
  refine tyOK_mk inf89 hu (by simp [EltOk, Value.cells, Value.oneCell', isAggV]) (fun c => by simp [Value.cells, RepL, RepV]) (by intro w; simp [isAgg, run_underlying hu]) (by intro h; exact absurd rfl h) (by
    intro i x s h
    match i, h with
    | 0, h => simp at h; obtain ⟨rfl, rfl⟩ := h; exact ⟨_, _, hu, rfl, rfl, by decide, ty34.size, ty34.agg, rfl⟩
    | 1, h => simp at h; obtain ⟨rfl, rfl⟩ := h; exact ⟨_, _, hu, rfl, rfl, by decide, ty34.size, ty34.agg, rfl⟩
    | n + 2, h => simp at h) (by intro _; exact ⟨_, hu, fun w => by simp [ty34.size]⟩) (by intro k h; simp at h) (by intro h; simp at h) (by intro h; simp at h) (fun _ => eqg_flat2 (by kernel_rfl) (by kernel_rfl) hu 4 (fun d => key22 (by decide) (by decide) (by kernel_rfl) (by kernel_rfl) Try.underlying34 Try.underlying34 ty34.size ty34.size ⟨by decide, Try.underlying3⟩ ⟨by decide, Try.underlying3⟩ rfl rfl rfl rfl d)) (by intro h; exact absurd rfl h)

theorem tabOK : TOK Try.prog tab := by
  refine lkD_ok ?_
  unfold tabL
  refine fok_cons ty2 (fok_cons ty3 (fok_cons ty4 (fok_cons ty5 (fok_cons ty9 (fok_cons ty12 (fok_cons ty21 (fok_cons ty22 (fok_cons ty23 (fok_cons ty25 (fok_cons ty30 (fok_cons ty31 (fok_cons ty33 (fok_cons ty34 (fok_cons ty36 (fok_cons ty38 (fok_cons ty47 (fok_cons ty52 (fok_cons ty55 (fok_cons ty58 (fok_cons ty64 (fok_cons ty65 (fok_cons ty67 (fok_cons ty69 (fok_cons ty88 (fok_cons ty89 (fok_cons ty90 (fok_cons ty94 (fok_cons ty98 (fok_cons ty106 (fok_cons ty108 (fok_cons ty110 (fok_cons ty114 (fok_cons ty116 (fok_cons ty129 (fok_nil)))))))))))))))))))))))))))))))))))

end Go.Proofs.Yteaanfpkakaaoaa
