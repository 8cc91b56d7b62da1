/- The table of the types of this translation. Written by a program (gentab.py). -/
import Derived.Test.YtmcpjnaedgpenaaProg
import Derived.Test.YtmcpjnaedgpenaaCb
set_option linter.unusedVariables false
set_option linter.unusedSimpArgs false
set_option maxRecDepth 100000
namespace Go.Proofs.Ytmcpjnaedgpenaa
open Go Go.Ideal

def tabL : List (Nat × TD) := [(2, { size := 1, bytes := 8, ik := some .i64, zero := [.num .i64 0] }),
  (3, { size := 1, bytes := 8, ik := some .i64, zero := [.num .i64 0] }),
  (4, { size := 1, bytes := 1, bl := true, zero := [.bool false] }),
  (5, { size := 1, bytes := 1, ik := some .u8, zero := [.num .u8 0] }),
  (9, { size := 1, bytes := 16, st := true, zero := [.str (ByteArray.mk #[])] }),
  (12, { size := 1, bytes := 8, ik := some .u64, zero := [.num .u64 0] }),
  (21, { size := 1, bytes := 4, ik := some .i32, zero := [.num .i32 0] }),
  (22, { size := 1, bytes := 24, elem := 5, zero := [.nils] }),
  (23, { size := 1, bytes := 24, elem := 30, zero := [.nils] }),
  (29, { size := 2, bytes := 16, offs := [(0, 1), (1, 1)], zero := [.num .i64 0, .num .i64 0], eqb := true }),
  (30, { size := 2, bytes := 16, offs := [(0, 1), (1, 1)], zero := [.num .i64 0, .num .i64 0], eqb := true }),
  (32, { size := 1, bytes := 24, elem := 47, zero := [.nils] }),
  (33, { size := 1, bytes := 24, elem := 66, zero := [.nils] }),
  (38, { size := 1, bytes := 24, elem := 64, zero := [.nils] }),
  (47, { size := 2, bytes := 16, offs := [(0, 1), (1, 1)], zero := [.num .i64 0, .num .i64 0], eqb := true }),
  (55, { size := 1, bytes := 8, zero := [.nilp] }),
  (63, { size := 3, bytes := 24, offs := [(0, 1), (1, 1), (2, 1)], zero := [.num .i64 0, .num .i64 0, .num .i64 0], eqb := true }),
  (64, { size := 3, bytes := 24, offs := [(0, 1), (1, 1), (2, 1)], zero := [.num .i64 0, .num .i64 0, .num .i64 0], eqb := true }),
  (66, { size := 3, bytes := 24, offs := [(0, 1), (1, 1), (2, 1)], zero := [.num .i64 0, .num .i64 0, .num .i64 0], eqb := true }),
  (73, { size := 1, bytes := 24, elem := 76, zero := [.nils] }),
  (75, { size := 4, bytes := 32, offs := [(0, 2), (2, 2)], zero := [.num .i64 0, .num .i64 0, .num .i64 0, .num .i64 0], eqb := true }),
  (76, { size := 4, bytes := 32, offs := [(0, 2), (2, 2)], zero := [.num .i64 0, .num .i64 0, .num .i64 0, .num .i64 0], eqb := true }),
  (79, { size := 1, bytes := 24, elem := 3, zero := [.nils] }),
  (84, { size := 2, bytes := 32, offs := [(0, 1), (1, 1)], zero := [.nils, .num .i64 0] }),
  (85, { size := 2, bytes := 32, offs := [(0, 1), (1, 1)], zero := [.nils, .num .i64 0] }),
  (101, { size := 1, bytes := 24, elem := 23, zero := [.nils] }),
  (106, { size := 1, bytes := 8, ik := some .u64, zero := [.num .u64 0] }),
  (109, { size := 1, bytes := 8, ik := some .i64, zero := [.num .i64 0] }),
  (117, { size := 1, bytes := 4, ik := some .u32, zero := [.num .u32 0] }),
  (119, { size := 1, bytes := 8, ik := some .u64, zero := [.num .u64 0] }),
  (120, { size := 1, bytes := 8, ik := some .u64, zero := [.num .u64 0] }),
  (124, { size := 1, bytes := 8, zero := [.nilp] }),
  (126, { size := 1, bytes := 8, zero := [.nilp] }),
  (138, { size := 1, bytes := 8, zero := [.nilp] })]
def tab : Nat → TD := lkD tabL

theorem tab2 : tab 2 = { size := 1, bytes := 8, ik := some .i64, zero := [.num .i64 0] } := rfl
theorem tab3 : tab 3 = { size := 1, bytes := 8, ik := some .i64, zero := [.num .i64 0] } := rfl
theorem tab4 : tab 4 = { size := 1, bytes := 1, bl := true, zero := [.bool false] } := rfl
theorem tab5 : tab 5 = { size := 1, bytes := 1, ik := some .u8, zero := [.num .u8 0] } := rfl
theorem tab9 : tab 9 = { size := 1, bytes := 16, st := true, zero := [.str (ByteArray.mk #[])] } := rfl
theorem tab12 : tab 12 = { size := 1, bytes := 8, ik := some .u64, zero := [.num .u64 0] } := rfl
theorem tab21 : tab 21 = { size := 1, bytes := 4, ik := some .i32, zero := [.num .i32 0] } := rfl
theorem tab22 : tab 22 = { size := 1, bytes := 24, elem := 5, zero := [.nils] } := rfl
theorem tab23 : tab 23 = { size := 1, bytes := 24, elem := 30, zero := [.nils] } := rfl
theorem tab29 : tab 29 = { size := 2, bytes := 16, offs := [(0, 1), (1, 1)], zero := [.num .i64 0, .num .i64 0], eqb := true } := rfl
theorem tab30 : tab 30 = { size := 2, bytes := 16, offs := [(0, 1), (1, 1)], zero := [.num .i64 0, .num .i64 0], eqb := true } := rfl
theorem tab32 : tab 32 = { size := 1, bytes := 24, elem := 47, zero := [.nils] } := rfl
theorem tab33 : tab 33 = { size := 1, bytes := 24, elem := 66, zero := [.nils] } := rfl
theorem tab38 : tab 38 = { size := 1, bytes := 24, elem := 64, zero := [.nils] } := rfl
theorem tab47 : tab 47 = { size := 2, bytes := 16, offs := [(0, 1), (1, 1)], zero := [.num .i64 0, .num .i64 0], eqb := true } := rfl
theorem tab55 : tab 55 = { size := 1, bytes := 8, zero := [.nilp] } := rfl
theorem tab63 : tab 63 = { size := 3, bytes := 24, offs := [(0, 1), (1, 1), (2, 1)], zero := [.num .i64 0, .num .i64 0, .num .i64 0], eqb := true } := rfl
theorem tab64 : tab 64 = { size := 3, bytes := 24, offs := [(0, 1), (1, 1), (2, 1)], zero := [.num .i64 0, .num .i64 0, .num .i64 0], eqb := true } := rfl
theorem tab66 : tab 66 = { size := 3, bytes := 24, offs := [(0, 1), (1, 1), (2, 1)], zero := [.num .i64 0, .num .i64 0, .num .i64 0], eqb := true } := rfl
theorem tab73 : tab 73 = { size := 1, bytes := 24, elem := 76, zero := [.nils] } := rfl
theorem tab75 : tab 75 = { size := 4, bytes := 32, offs := [(0, 2), (2, 2)], zero := [.num .i64 0, .num .i64 0, .num .i64 0, .num .i64 0], eqb := true } := rfl
theorem tab76 : tab 76 = { size := 4, bytes := 32, offs := [(0, 2), (2, 2)], zero := [.num .i64 0, .num .i64 0, .num .i64 0, .num .i64 0], eqb := true } := rfl
theorem tab79 : tab 79 = { size := 1, bytes := 24, elem := 3, zero := [.nils] } := rfl
theorem tab84 : tab 84 = { size := 2, bytes := 32, offs := [(0, 1), (1, 1)], zero := [.nils, .num .i64 0] } := rfl
theorem tab85 : tab 85 = { size := 2, bytes := 32, offs := [(0, 1), (1, 1)], zero := [.nils, .num .i64 0] } := rfl
theorem tab101 : tab 101 = { size := 1, bytes := 24, elem := 23, zero := [.nils] } := rfl
theorem tab106 : tab 106 = { size := 1, bytes := 8, ik := some .u64, zero := [.num .u64 0] } := rfl
theorem tab109 : tab 109 = { size := 1, bytes := 8, ik := some .i64, zero := [.num .i64 0] } := rfl
theorem tab117 : tab 117 = { size := 1, bytes := 4, ik := some .u32, zero := [.num .u32 0] } := rfl
theorem tab119 : tab 119 = { size := 1, bytes := 8, ik := some .u64, zero := [.num .u64 0] } := rfl
theorem tab120 : tab 120 = { size := 1, bytes := 8, ik := some .u64, zero := [.num .u64 0] } := rfl
theorem tab124 : tab 124 = { size := 1, bytes := 8, zero := [.nilp] } := rfl
theorem tab126 : tab 126 = { size := 1, bytes := 8, zero := [.nilp] } := rfl
theorem tab138 : tab 138 = { size := 1, bytes := 8, zero := [.nilp] } := rfl

theorem inf2 : (Try.prog.info? 2).map (fun i => (i.size, i.bytes, i.zero)) = some (1, 8, some (.int .i64 0)) := by kernel_rfl
theorem inf3 : (Try.prog.info? 3).map (fun i => (i.size, i.bytes, i.zero)) = some (1, 8, some (.int .i64 0)) := by kernel_rfl
theorem inf4 : (Try.prog.info? 4).map (fun i => (i.size, i.bytes, i.zero)) = some (1, 1, some (.bool false)) := by kernel_rfl
theorem inf5 : (Try.prog.info? 5).map (fun i => (i.size, i.bytes, i.zero)) = some (1, 1, some (.int .u8 0)) := by kernel_rfl
theorem inf9 : (Try.prog.info? 9).map (fun i => (i.size, i.bytes, i.zero)) = some (1, 16, some (.string (ByteArray.mk #[]))) := by kernel_rfl
theorem inf12 : (Try.prog.info? 12).map (fun i => (i.size, i.bytes, i.zero)) = some (1, 8, some (.int .u64 0)) := by kernel_rfl
theorem inf21 : (Try.prog.info? 21).map (fun i => (i.size, i.bytes, i.zero)) = some (1, 4, some (.int .i32 0)) := by kernel_rfl
theorem inf22 : (Try.prog.info? 22).map (fun i => (i.size, i.bytes, i.zero)) = some (1, 24, some (.slice none 0 0)) := by kernel_rfl
theorem inf23 : (Try.prog.info? 23).map (fun i => (i.size, i.bytes, i.zero)) = some (1, 24, some (.slice none 0 0)) := by kernel_rfl
theorem inf29 : (Try.prog.info? 29).map (fun i => (i.size, i.bytes, i.zero)) = some (2, 16, some (.agg #[.int .i64 0, .int .i64 0])) := by kernel_rfl
theorem inf30 : (Try.prog.info? 30).map (fun i => (i.size, i.bytes, i.zero)) = some (2, 16, some (.agg #[.int .i64 0, .int .i64 0])) := by kernel_rfl
theorem inf32 : (Try.prog.info? 32).map (fun i => (i.size, i.bytes, i.zero)) = some (1, 24, some (.slice none 0 0)) := by kernel_rfl
theorem inf33 : (Try.prog.info? 33).map (fun i => (i.size, i.bytes, i.zero)) = some (1, 24, some (.slice none 0 0)) := by kernel_rfl
theorem inf38 : (Try.prog.info? 38).map (fun i => (i.size, i.bytes, i.zero)) = some (1, 24, some (.slice none 0 0)) := by kernel_rfl
theorem inf47 : (Try.prog.info? 47).map (fun i => (i.size, i.bytes, i.zero)) = some (2, 16, some (.agg #[.int .i64 0, .int .i64 0])) := by kernel_rfl
theorem inf55 : (Try.prog.info? 55).map (fun i => (i.size, i.bytes, i.zero)) = some (1, 8, some (.pointer none)) := by kernel_rfl
theorem inf63 : (Try.prog.info? 63).map (fun i => (i.size, i.bytes, i.zero)) = some (3, 24, some (.agg #[.int .i64 0, .int .i64 0, .int .i64 0])) := by kernel_rfl
theorem inf64 : (Try.prog.info? 64).map (fun i => (i.size, i.bytes, i.zero)) = some (3, 24, some (.agg #[.int .i64 0, .int .i64 0, .int .i64 0])) := by kernel_rfl
theorem inf66 : (Try.prog.info? 66).map (fun i => (i.size, i.bytes, i.zero)) = some (3, 24, some (.agg #[.int .i64 0, .int .i64 0, .int .i64 0])) := by kernel_rfl
theorem inf73 : (Try.prog.info? 73).map (fun i => (i.size, i.bytes, i.zero)) = some (1, 24, some (.slice none 0 0)) := by kernel_rfl
theorem inf75 : (Try.prog.info? 75).map (fun i => (i.size, i.bytes, i.zero)) = some (4, 32, some (.agg #[.int .i64 0, .int .i64 0, .int .i64 0, .int .i64 0])) := by kernel_rfl
theorem inf76 : (Try.prog.info? 76).map (fun i => (i.size, i.bytes, i.zero)) = some (4, 32, some (.agg #[.int .i64 0, .int .i64 0, .int .i64 0, .int .i64 0])) := by kernel_rfl
theorem inf79 : (Try.prog.info? 79).map (fun i => (i.size, i.bytes, i.zero)) = some (1, 24, some (.slice none 0 0)) := by kernel_rfl
theorem inf84 : (Try.prog.info? 84).map (fun i => (i.size, i.bytes, i.zero)) = some (2, 32, some (.agg #[.slice none 0 0, .int .i64 0])) := by kernel_rfl
theorem inf85 : (Try.prog.info? 85).map (fun i => (i.size, i.bytes, i.zero)) = some (2, 32, some (.agg #[.slice none 0 0, .int .i64 0])) := by kernel_rfl
theorem inf101 : (Try.prog.info? 101).map (fun i => (i.size, i.bytes, i.zero)) = some (1, 24, some (.slice none 0 0)) := by kernel_rfl
theorem inf106 : (Try.prog.info? 106).map (fun i => (i.size, i.bytes, i.zero)) = some (1, 8, some (.int .u64 0)) := by kernel_rfl
theorem inf109 : (Try.prog.info? 109).map (fun i => (i.size, i.bytes, i.zero)) = some (1, 8, some (.int .i64 0)) := by kernel_rfl
theorem inf117 : (Try.prog.info? 117).map (fun i => (i.size, i.bytes, i.zero)) = some (1, 4, some (.int .u32 0)) := by kernel_rfl
theorem inf119 : (Try.prog.info? 119).map (fun i => (i.size, i.bytes, i.zero)) = some (1, 8, some (.int .u64 0)) := by kernel_rfl
theorem inf120 : (Try.prog.info? 120).map (fun i => (i.size, i.bytes, i.zero)) = some (1, 8, some (.int .u64 0)) := by kernel_rfl
theorem inf124 : (Try.prog.info? 124).map (fun i => (i.size, i.bytes, i.zero)) = some (1, 8, some (.pointer none)) := by kernel_rfl
theorem inf126 : (Try.prog.info? 126).map (fun i => (i.size, i.bytes, i.zero)) = some (1, 8, some (.pointer none)) := by kernel_rfl
theorem inf138 : (Try.prog.info? 138).map (fun i => (i.size, i.bytes, i.zero)) = some (1, 8, some (.pointer none)) := by kernel_rfl
theorem ty2 : TyOK Try.prog 2 { size := 1, bytes := 8, ik := some .i64, zero := [.num .i64 0] } := by
  have hu := Try.underlying2
  refine tyOK_mk inf2 hu (by simp [EltOk, Value.cells, Value.oneCell', isAggV]) (fun c => by simp [Value.cells, RepL, RepV]) (by intro w; simp [isAgg, run_underlying hu]) (by intro h; exact absurd rfl h) (by intro i x s h; simp at h) (by intro h; exact absurd rfl h) (by intro k h; simp at h; subst h; exact hu) (by intro h; simp at h) (by intro h; simp at h) (by intro h; simp at h)
theorem ty3 : TyOK Try.prog 3 { size := 1, bytes := 8, ik := some .i64, zero := [.num .i64 0] } := by
  have hu := Try.underlying3
  refine tyOK_mk inf3 hu (by simp [EltOk, Value.cells, Value.oneCell', isAggV]) (fun c => by simp [Value.cells, RepL, RepV]) (by intro w; simp [isAgg, run_underlying hu]) (by intro h; exact absurd rfl h) (by intro i x s h; simp at h) (by intro h; exact absurd rfl h) (by intro k h; simp at h; subst h; exact hu) (by intro h; simp at h) (by intro h; simp at h) (by intro h; simp at h)
theorem ty4 : TyOK Try.prog 4 { size := 1, bytes := 1, bl := true, zero := [.bool false] } := by
  have hu := Try.underlying4
  refine tyOK_mk inf4 hu (by simp [EltOk, Value.cells, Value.oneCell', isAggV]) (fun c => by simp [Value.cells, RepL, RepV]) (by intro w; simp [isAgg, run_underlying hu]) (by intro h; exact absurd rfl h) (by intro i x s h; simp at h) (by intro h; exact absurd rfl h) (by intro k h; simp at h) (by intro h; exact hu) (by intro h; simp at h) (by intro h; simp at h)
theorem ty5 : TyOK Try.prog 5 { size := 1, bytes := 1, ik := some .u8, zero := [.num .u8 0] } := by
  have hu := Try.underlying5
  refine tyOK_mk inf5 hu (by simp [EltOk, Value.cells, Value.oneCell', isAggV]) (fun c => by simp [Value.cells, RepL, RepV]) (by intro w; simp [isAgg, run_underlying hu]) (by intro h; exact absurd rfl h) (by intro i x s h; simp at h) (by intro h; exact absurd rfl h) (by intro k h; simp at h; subst h; exact hu) (by intro h; simp at h) (by intro h; simp at h) (by intro h; simp at h)
theorem ty9 : TyOK Try.prog 9 { size := 1, bytes := 16, st := true, zero := [.str (ByteArray.mk #[])] } := by
  have hu := Try.underlying9
  refine tyOK_mk inf9 hu (by simp [EltOk, Value.cells, Value.oneCell', isAggV]) (fun c => by simp [Value.cells, RepL, RepV]) (by intro w; simp [isAgg, run_underlying hu]) (by intro h; exact absurd rfl h) (by intro i x s h; simp at h) (by intro h; exact absurd rfl h) (by intro k h; simp at h) (by intro h; simp at h) (by intro h; exact hu) (by intro h; simp at h)
theorem ty12 : TyOK Try.prog 12 { size := 1, bytes := 8, ik := some .u64, zero := [.num .u64 0] } := by
  have hu := Try.underlying12
  refine tyOK_mk inf12 hu (by simp [EltOk, Value.cells, Value.oneCell', isAggV]) (fun c => by simp [Value.cells, RepL, RepV]) (by intro w; simp [isAgg, run_underlying hu]) (by intro h; exact absurd rfl h) (by intro i x s h; simp at h) (by intro h; exact absurd rfl h) (by intro k h; simp at h; subst h; exact hu) (by intro h; simp at h) (by intro h; simp at h) (by intro h; simp at h)
theorem ty21 : TyOK Try.prog 21 { size := 1, bytes := 4, ik := some .i32, zero := [.num .i32 0] } := by
  have hu := Try.underlying21
  refine tyOK_mk inf21 hu (by simp [EltOk, Value.cells, Value.oneCell', isAggV]) (fun c => by simp [Value.cells, RepL, RepV]) (by intro w; simp [isAgg, run_underlying hu]) (by intro h; exact absurd rfl h) (by intro i x s h; simp at h) (by intro h; exact absurd rfl h) (by intro k h; simp at h; subst h; exact hu) (by intro h; simp at h) (by intro h; simp at h) (by intro h; simp at h)
theorem ty22 : TyOK Try.prog 22 { size := 1, bytes := 24, elem := 5, zero := [.nils] } := by
  have hu := Try.underlying22
  refine tyOK_mk inf22 hu (by simp [EltOk, Value.cells, Value.oneCell', isAggV]) (fun c => by simp [Value.cells, RepL, RepV]) (by intro w; simp [isAgg, run_underlying hu]) (by intro h; exact hu) (by intro i x s h; simp at h) (by intro h; exact absurd rfl h) (by intro k h; simp at h) (by intro h; simp at h) (by intro h; simp at h) (by intro h; simp at h)
theorem ty23 : TyOK Try.prog 23 { size := 1, bytes := 24, elem := 30, zero := [.nils] } := by
  have hu := Try.underlying23
  refine tyOK_mk inf23 hu (by simp [EltOk, Value.cells, Value.oneCell', isAggV]) (fun c => by simp [Value.cells, RepL, RepV]) (by intro w; simp [isAgg, run_underlying hu]) (by intro h; exact hu) (by intro i x s h; simp at h) (by intro h; exact absurd rfl h) (by intro k h; simp at h) (by intro h; simp at h) (by intro h; simp at h) (by intro h; simp at h)
theorem ty32 : TyOK Try.prog 32 { size := 1, bytes := 24, elem := 47, zero := [.nils] } := by
  have hu := Try.underlying32
  refine tyOK_mk inf32 hu (by simp [EltOk, Value.cells, Value.oneCell', isAggV]) (fun c => by simp [Value.cells, RepL, RepV]) (by intro w; simp [isAgg, run_underlying hu]) (by intro h; exact hu) (by intro i x s h; simp at h) (by intro h; exact absurd rfl h) (by intro k h; simp at h) (by intro h; simp at h) (by intro h; simp at h) (by intro h; simp at h)
theorem ty33 : TyOK Try.prog 33 { size := 1, bytes := 24, elem := 66, zero := [.nils] } := by
  have hu := Try.underlying33
  refine tyOK_mk inf33 hu (by simp [EltOk, Value.cells, Value.oneCell', isAggV]) (fun c => by simp [Value.cells, RepL, RepV]) (by intro w; simp [isAgg, run_underlying hu]) (by intro h; exact hu) (by intro i x s h; simp at h) (by intro h; exact absurd rfl h) (by intro k h; simp at h) (by intro h; simp at h) (by intro h; simp at h) (by intro h; simp at h)
theorem ty38 : TyOK Try.prog 38 { size := 1, bytes := 24, elem := 64, zero := [.nils] } := by
  have hu := Try.underlying38
  refine tyOK_mk inf38 hu (by simp [EltOk, Value.cells, Value.oneCell', isAggV]) (fun c => by simp [Value.cells, RepL, RepV]) (by intro w; simp [isAgg, run_underlying hu]) (by intro h; exact hu) (by intro i x s h; simp at h) (by intro h; exact absurd rfl h) (by intro k h; simp at h) (by intro h; simp at h) (by intro h; simp at h) (by intro h; simp at h)
theorem ty55 : TyOK Try.prog 55 { size := 1, bytes := 8, zero := [.nilp] } := by
  have hu := Try.underlying55
  refine tyOK_mk inf55 hu (by simp [EltOk, Value.cells, Value.oneCell', isAggV]) (fun c => by simp [Value.cells, RepL, RepV]) (by intro w; simp [isAgg, run_underlying hu]) (by intro h; exact absurd rfl h) (by intro i x s h; simp at h) (by intro h; exact absurd rfl h) (by intro k h; simp at h) (by intro h; simp at h) (by intro h; simp at h) (by intro h; simp at h)
theorem ty73 : TyOK Try.prog 73 { size := 1, bytes := 24, elem := 76, zero := [.nils] } := by
  have hu := Try.underlying73
  refine tyOK_mk inf73 hu (by simp [EltOk, Value.cells, Value.oneCell', isAggV]) (fun c => by simp [Value.cells, RepL, RepV]) (by intro w; simp [isAgg, run_underlying hu]) (by intro h; exact hu) (by intro i x s h; simp at h) (by intro h; exact absurd rfl h) (by intro k h; simp at h) (by intro h; simp at h) (by intro h; simp at h) (by intro h; simp at h)
theorem ty79 : TyOK Try.prog 79 { size := 1, bytes := 24, elem := 3, zero := [.nils] } := by
  have hu := Try.underlying79
  refine tyOK_mk inf79 hu (by simp [EltOk, Value.cells, Value.oneCell', isAggV]) (fun c => by simp [Value.cells, RepL, RepV]) (by intro w; simp [isAgg, run_underlying hu]) (by intro h; exact hu) (by intro i x s h; simp at h) (by intro h; exact absurd rfl h) (by intro k h; simp at h) (by intro h; simp at h) (by intro h; simp at h) (by intro h; simp at h)
theorem ty101 : TyOK Try.prog 101 { size := 1, bytes := 24, elem := 23, zero := [.nils] } := by
  have hu := Try.underlying101
  refine tyOK_mk inf101 hu (by simp [EltOk, Value.cells, Value.oneCell', isAggV]) (fun c => by simp [Value.cells, RepL, RepV]) (by intro w; simp [isAgg, run_underlying hu]) (by intro h; exact hu) (by intro i x s h; simp at h) (by intro h; exact absurd rfl h) (by intro k h; simp at h) (by intro h; simp at h) (by intro h; simp at h) (by intro h; simp at h)
theorem ty106 : TyOK Try.prog 106 { size := 1, bytes := 8, ik := some .u64, zero := [.num .u64 0] } := by
  have hu := Try.underlying106
  refine tyOK_mk inf106 hu (by simp [EltOk, Value.cells, Value.oneCell', isAggV]) (fun c => by simp [Value.cells, RepL, RepV]) (by intro w; simp [isAgg, run_underlying hu]) (by intro h; exact absurd rfl h) (by intro i x s h; simp at h) (by intro h; exact absurd rfl h) (by intro k h; simp at h; subst h; exact hu) (by intro h; simp at h) (by intro h; simp at h) (by intro h; simp at h)
theorem ty109 : TyOK Try.prog 109 { size := 1, bytes := 8, ik := some .i64, zero := [.num .i64 0] } := by
  have hu := Try.underlying109
  refine tyOK_mk inf109 hu (by simp [EltOk, Value.cells, Value.oneCell', isAggV]) (fun c => by simp [Value.cells, RepL, RepV]) (by intro w; simp [isAgg, run_underlying hu]) (by intro h; exact absurd rfl h) (by intro i x s h; simp at h) (by intro h; exact absurd rfl h) (by intro k h; simp at h; subst h; exact hu) (by intro h; simp at h) (by intro h; simp at h) (by intro h; simp at h)
theorem ty117 : TyOK Try.prog 117 { size := 1, bytes := 4, ik := some .u32, zero := [.num .u32 0] } := by
  have hu := Try.underlying117
  refine tyOK_mk inf117 hu (by simp [EltOk, Value.cells, Value.oneCell', isAggV]) (fun c => by simp [Value.cells, RepL, RepV]) (by intro w; simp [isAgg, run_underlying hu]) (by intro h; exact absurd rfl h) (by intro i x s h; simp at h) (by intro h; exact absurd rfl h) (by intro k h; simp at h; subst h; exact hu) (by intro h; simp at h) (by intro h; simp at h) (by intro h; simp at h)
theorem ty119 : TyOK Try.prog 119 { size := 1, bytes := 8, ik := some .u64, zero := [.num .u64 0] } := by
  have hu := Try.underlying119
  refine tyOK_mk inf119 hu (by simp [EltOk, Value.cells, Value.oneCell', isAggV]) (fun c => by simp [Value.cells, RepL, RepV]) (by intro w; simp [isAgg, run_underlying hu]) (by intro h; exact absurd rfl h) (by intro i x s h; simp at h) (by intro h; exact absurd rfl h) (by intro k h; simp at h; subst h; exact hu) (by intro h; simp at h) (by intro h; simp at h) (by intro h; simp at h)
theorem ty120 : TyOK Try.prog 120 { size := 1, bytes := 8, ik := some .u64, zero := [.num .u64 0] } := by
  have hu := Try.underlying120
  refine tyOK_mk inf120 hu (by simp [EltOk, Value.cells, Value.oneCell', isAggV]) (fun c => by simp [Value.cells, RepL, RepV]) (by intro w; simp [isAgg, run_underlying hu]) (by intro h; exact absurd rfl h) (by intro i x s h; simp at h) (by intro h; exact absurd rfl h) (by intro k h; simp at h; subst h; exact hu) (by intro h; simp at h) (by intro h; simp at h) (by intro h; simp at h)
theorem ty124 : TyOK Try.prog 124 { size := 1, bytes := 8, zero := [.nilp] } := by
  have hu := Try.underlying124
  refine tyOK_mk inf124 hu (by simp [EltOk, Value.cells, Value.oneCell', isAggV]) (fun c => by simp [Value.cells, RepL, RepV]) (by intro w; simp [isAgg, run_underlying hu]) (by intro h; exact absurd rfl h) (by intro i x s h; simp at h) (by intro h; exact absurd rfl h) (by intro k h; simp at h) (by intro h; simp at h) (by intro h; simp at h) (by intro h; simp at h)
theorem ty126 : TyOK Try.prog 126 { size := 1, bytes := 8, zero := [.nilp] } := by
  have hu := Try.underlying126
  refine tyOK_mk inf126 hu (by simp [EltOk, Value.cells, Value.oneCell', isAggV]) (fun c => by simp [Value.cells, RepL, RepV]) (by intro w; simp [isAgg, run_underlying hu]) (by intro h; exact absurd rfl h) (by intro i x s h; simp at h) (by intro h; exact absurd rfl h) (by intro k h; simp at h) (by intro h; simp at h) (by intro h; simp at h) (by intro h; simp at h)
theorem ty138 : TyOK Try.prog 138 { size := 1, bytes := 8, zero := [.nilp] } := by
  have hu := Try.underlying138
  refine tyOK_mk inf138 hu (by simp [EltOk, Value.cells, Value.oneCell', isAggV]) (fun c => by simp [Value.cells, RepL, RepV]) (by intro w; simp [isAgg, run_underlying hu]) (by intro h; exact absurd rfl h) (by intro i x s h; simp at h) (by intro h; exact absurd rfl h) (by intro k h; simp at h) (by intro h; simp at h) (by intro h; simp at h) (by intro h; simp at h)
theorem ty29 : TyOK Try.prog 29 { size := 2, bytes := 16, offs := [(0, 1), (1, 1)], zero := [.num .i64 0, .num .i64 0], eqb := true } := by
  have hu := Try.underlying29
  refine tyOK_mk inf29 hu (by simp [EltOk, Value.cells, Value.oneCell', isAggV]) (fun c => by simp [Value.cells, RepL, RepV]) (by intro w; simp [isAgg, run_underlying hu]) (by intro h; exact absurd rfl h) (by
    intro i x s h
    match i, h with
    | 0, h => simp at h; obtain ⟨rfl, rfl⟩ := h; exact ⟨_, _, hu, rfl, rfl, by decide, ty3.size, ty3.agg, rfl⟩
    | 1, h => simp at h; obtain ⟨rfl, rfl⟩ := h; exact ⟨_, _, hu, rfl, rfl, by decide, ty3.size, ty3.agg, rfl⟩
    | n + 2, h => simp at h) (by intro _; exact ⟨_, hu, fun w => by simp [ty3.size]⟩) (by intro k h; simp at h) (by intro h; simp at h) (by intro h; simp at h) (fun _ => eqg_flat (by kernel_rfl) (by kernel_rfl) hu 2 (key2 ⟨by decide, Try.underlying3⟩ ⟨by decide, Try.underlying3⟩ rfl rfl))
theorem ty30 : TyOK Try.prog 30 { size := 2, bytes := 16, offs := [(0, 1), (1, 1)], zero := [.num .i64 0, .num .i64 0], eqb := true } := by
  have hu := Try.underlying30
  refine tyOK_mk inf30 hu (by simp [EltOk, Value.cells, Value.oneCell', isAggV]) (fun c => by simp [Value.cells, RepL, RepV]) (by intro w; simp [isAgg, run_underlying hu]) (by intro h; exact absurd rfl h) (by
    intro i x s h
    match i, h with
    | 0, h => simp at h; obtain ⟨rfl, rfl⟩ := h; exact ⟨_, _, hu, rfl, rfl, by decide, ty3.size, ty3.agg, rfl⟩
    | 1, h => simp at h; obtain ⟨rfl, rfl⟩ := h; exact ⟨_, _, hu, rfl, rfl, by decide, ty3.size, ty3.agg, rfl⟩
    | n + 2, h => simp at h) (by intro _; exact ⟨_, hu, fun w => by simp [ty3.size]⟩) (by intro k h; simp at h) (by intro h; simp at h) (by intro h; simp at h) (fun _ => eqg_flat (by kernel_rfl) (by kernel_rfl) hu 2 (key2 ⟨by decide, Try.underlying3⟩ ⟨by decide, Try.underlying3⟩ rfl rfl))
theorem ty47 : TyOK Try.prog 47 { size := 2, bytes := 16, offs := [(0, 1), (1, 1)], zero := [.num .i64 0, .num .i64 0], eqb := true } := by
  have hu := Try.underlying47
  refine tyOK_mk inf47 hu (by simp [EltOk, Value.cells, Value.oneCell', isAggV]) (fun c => by simp [Value.cells, RepL, RepV]) (by intro w; simp [isAgg, run_underlying hu]) (by intro h; exact absurd rfl h) (by
    intro i x s h
    match i, h with
    | 0, h => simp at h; obtain ⟨rfl, rfl⟩ := h; exact ⟨_, _, hu, rfl, rfl, by decide, ty3.size, ty3.agg, rfl⟩
    | 1, h => simp at h; obtain ⟨rfl, rfl⟩ := h; exact ⟨_, _, hu, rfl, rfl, by decide, ty3.size, ty3.agg, rfl⟩
    | n + 2, h => simp at h) (by intro _; exact ⟨_, hu, fun w => by simp [ty3.size]⟩) (by intro k h; simp at h) (by intro h; simp at h) (by intro h; simp at h) (fun _ => eqg_flat (by kernel_rfl) (by kernel_rfl) hu 2 (key2 ⟨by decide, Try.underlying3⟩ ⟨by decide, Try.underlying3⟩ rfl rfl))
theorem ty84 : TyOK Try.prog 84 { size := 2, bytes := 32, offs := [(0, 1), (1, 1)], zero := [.nils, .num .i64 0] } := by
  have hu := Try.underlying84
  refine tyOK_mk inf84 hu (by simp [EltOk, Value.cells, Value.oneCell', isAggV]) (fun c => by simp [Value.cells, RepL, RepV]) (by intro w; simp [isAgg, run_underlying hu]) (by intro h; exact absurd rfl h) (by
    intro i x s h
    match i, h with
    | 0, h => simp at h; obtain ⟨rfl, rfl⟩ := h; exact ⟨_, _, hu, rfl, rfl, by decide, ty22.size, ty22.agg, rfl⟩
    | 1, h => simp at h; obtain ⟨rfl, rfl⟩ := h; exact ⟨_, _, hu, rfl, rfl, by decide, ty3.size, ty3.agg, rfl⟩
    | n + 2, h => simp at h) (by intro _; exact ⟨_, hu, fun w => by simp [ty3.size, ty22.size]⟩) (by intro k h; simp at h) (by intro h; simp at h) (by intro h; simp at h) (by intro h; simp at h)
theorem ty85 : TyOK Try.prog 85 { size := 2, bytes := 32, offs := [(0, 1), (1, 1)], zero := [.nils, .num .i64 0] } := by
  have hu := Try.underlying85
  refine tyOK_mk inf85 hu (by simp [EltOk, Value.cells, Value.oneCell', isAggV]) (fun c => by simp [Value.cells, RepL, RepV]) (by intro w; simp [isAgg, run_underlying hu]) (by intro h; exact absurd rfl h) (by
    intro i x s h
    match i, h with
    | 0, h => simp at h; obtain ⟨rfl, rfl⟩ := h; exact ⟨_, _, hu, rfl, rfl, by decide, ty22.size, ty22.agg, rfl⟩
    | 1, h => simp at h; obtain ⟨rfl, rfl⟩ := h; exact ⟨_, _, hu, rfl, rfl, by decide, ty3.size, ty3.agg, rfl⟩
    | n + 2, h => simp at h) (by intro _; exact ⟨_, hu, fun w => by simp [ty3.size, ty22.size]⟩) (by intro k h; simp at h) (by intro h; simp at h) (by intro h; simp at h) (by intro h; simp at h)
theorem ty63 : TyOK Try.prog 63 { size := 3, bytes := 24, offs := [(0, 1), (1, 1), (2, 1)], zero := [.num .i64 0, .num .i64 0, .num .i64 0], eqb := true } := by
  have hu := Try.underlying63
  refine tyOK_mk inf63 hu (by simp [EltOk, Value.cells, Value.oneCell', isAggV]) (fun c => by simp [Value.cells, RepL, RepV]) (by intro w; simp [isAgg, run_underlying hu]) (by intro h; exact absurd rfl h) (by
    intro i x s h
    match i, h with
    | 0, h => simp at h; obtain ⟨rfl, rfl⟩ := h; exact ⟨_, _, hu, rfl, rfl, by decide, ty3.size, ty3.agg, rfl⟩
    | 1, h => simp at h; obtain ⟨rfl, rfl⟩ := h; exact ⟨_, _, hu, rfl, rfl, by decide, ty3.size, ty3.agg, rfl⟩
    | 2, h => simp at h; obtain ⟨rfl, rfl⟩ := h; exact ⟨_, _, hu, rfl, rfl, by decide, ty3.size, ty3.agg, rfl⟩
    | n + 3, h => simp at h) (by intro _; exact ⟨_, hu, fun w => by simp [ty3.size]⟩) (by intro k h; simp at h) (by intro h; simp at h) (by intro h; simp at h) (fun _ => eqg_flat (by kernel_rfl) (by kernel_rfl) hu 3 (key3 ⟨by decide, Try.underlying3⟩ ⟨by decide, Try.underlying3⟩ ⟨by decide, Try.underlying3⟩ rfl rfl rfl))
theorem ty64 : TyOK Try.prog 64 { size := 3, bytes := 24, offs := [(0, 1), (1, 1), (2, 1)], zero := [.num .i64 0, .num .i64 0, .num .i64 0], eqb := true } := by
  have hu := Try.underlying64
  refine tyOK_mk inf64 hu (by simp [EltOk, Value.cells, Value.oneCell', isAggV]) (fun c => by simp [Value.cells, RepL, RepV]) (by intro w; simp [isAgg, run_underlying hu]) (by intro h; exact absurd rfl h) (by
    intro i x s h
    match i, h with
    | 0, h => simp at h; obtain ⟨rfl, rfl⟩ := h; exact ⟨_, _, hu, rfl, rfl, by decide, ty3.size, ty3.agg, rfl⟩
    | 1, h => simp at h; obtain ⟨rfl, rfl⟩ := h; exact ⟨_, _, hu, rfl, rfl, by decide, ty3.size, ty3.agg, rfl⟩
    | 2, h => simp at h; obtain ⟨rfl, rfl⟩ := h; exact ⟨_, _, hu, rfl, rfl, by decide, ty3.size, ty3.agg, rfl⟩
    | n + 3, h => simp at h) (by intro _; exact ⟨_, hu, fun w => by simp [ty3.size]⟩) (by intro k h; simp at h) (by intro h; simp at h) (by intro h; simp at h) (fun _ => eqg_flat (by kernel_rfl) (by kernel_rfl) hu 3 (key3 ⟨by decide, Try.underlying3⟩ ⟨by decide, Try.underlying3⟩ ⟨by decide, Try.underlying3⟩ rfl rfl rfl))
theorem ty66 : TyOK Try.prog 66 { size := 3, bytes := 24, offs := [(0, 1), (1, 1), (2, 1)], zero := [.num .i64 0, .num .i64 0, .num .i64 0], eqb := true } := by
  have hu := Try.underlying66
  refine tyOK_mk inf66 hu (by simp [EltOk, Value.cells, Value.oneCell', isAggV]) (fun c => by simp [Value.cells, RepL, RepV]) (by intro w; simp [isAgg, run_underlying hu]) (by intro h; exact absurd rfl h) (by
    intro i x s h
    match i, h with
    | 0, h => simp at h; obtain ⟨rfl, rfl⟩ := h; exact ⟨_, _, hu, rfl, rfl, by decide, ty3.size, ty3.agg, rfl⟩
    | 1, h => simp at h; obtain ⟨rfl, rfl⟩ := h; exact ⟨_, _, hu, rfl, rfl, by decide, ty3.size, ty3.agg, rfl⟩
    | 2, h => simp at h; obtain ⟨rfl, rfl⟩ := h; exact ⟨_, _, hu, rfl, rfl, by decide, ty3.size, ty3.agg, rfl⟩
    | n + 3, h => simp at h) (by intro _; exact ⟨_, hu, fun w => by simp [ty3.size]⟩) (by intro k h; simp at h) (by intro h; simp at h) (by intro h; simp at h) (fun _ => eqg_flat (by kernel_rfl) (by kernel_rfl) hu 3 (key3 ⟨by decide, Try.underlying3⟩ ⟨by decide, Try.underlying3⟩ ⟨by decide, Try.underlying3⟩ rfl rfl rfl))
theorem ty75 : TyOK Try.prog 75 { size := 4, bytes := 32, offs := [(0, 2), (2, 2)], zero := [.num .i64 0, .num .i64 0, .num .i64 0, .num .i64 0], eqb := true } := by
  have hu := Try.underlying75
  refine tyOK_mk inf75 hu (by simp [EltOk, Value.cells, Value.oneCell', isAggV]) (fun c => by simp [Value.cells, RepL, RepV]) (by intro w; simp [isAgg, run_underlying hu]) (by intro h; exact absurd rfl h) (by
    intro i x s h
    match i, h with
    | 0, h => simp at h; obtain ⟨rfl, rfl⟩ := h; exact ⟨_, _, hu, rfl, rfl, by decide, ty30.size, ty30.agg, rfl⟩
    | 1, h => simp at h; obtain ⟨rfl, rfl⟩ := h; exact ⟨_, _, hu, rfl, rfl, by decide, ty30.size, ty30.agg, rfl⟩
    | n + 2, h => simp at h) (by intro _; exact ⟨_, hu, fun w => by simp [ty30.size]⟩) (by intro k h; simp at h) (by intro h; simp at h) (by intro h; simp at h) (fun _ => eqg_flat2 (by kernel_rfl) (by kernel_rfl) hu 4 (fun d => key22 (by decide) (by decide) (by kernel_rfl) (by kernel_rfl) Try.underlying30 Try.underlying30 ty30.size ty30.size ⟨by decide, Try.underlying3⟩ ⟨by decide, Try.underlying3⟩ rfl rfl rfl rfl d))
theorem ty76 : TyOK Try.prog 76 { size := 4, bytes := 32, offs := [(0, 2), (2, 2)], zero := [.num .i64 0, .num .i64 0, .num .i64 0, .num .i64 0], eqb := true } := by
  have hu := Try.underlying76
  refine tyOK_mk inf76 hu (by simp [EltOk, Value.cells, Value.oneCell', isAggV]) (fun c => by simp [Value.cells, RepL, RepV]) (by intro w; simp [isAgg, run_underlying hu]) (by intro h; exact absurd rfl h) (by
    intro i x s h
    match i, h with
    | 0, h => simp at h; obtain ⟨rfl, rfl⟩ := h; exact ⟨_, _, hu, rfl, rfl, by decide, ty30.size, ty30.agg, rfl⟩
    | 1, h => simp at h; obtain ⟨rfl, rfl⟩ := h; exact ⟨_, _, hu, rfl, rfl, by decide, ty30.size, ty30.agg, rfl⟩
    | n + 2, h => simp at h) (by intro _; exact ⟨_, hu, fun w => by simp [ty30.size]⟩) (by intro k h; simp at h) (by intro h; simp at h) (by intro h; simp at h) (fun _ => eqg_flat2 (by kernel_rfl) (by kernel_rfl) hu 4 (fun d => key22 (by decide) (by decide) (by kernel_rfl) (by kernel_rfl) Try.underlying30 Try.underlying30 ty30.size ty30.size ⟨by decide, Try.underlying3⟩ ⟨by decide, Try.underlying3⟩ rfl rfl rfl rfl d))

theorem tabOK : TOK Try.prog tab := by
  refine lkD_ok ?_
  unfold tabL
  refine fok_cons ty2 (fok_cons ty3 (fok_cons ty4 (fok_cons ty5 (fok_cons ty9 (fok_cons ty12 (fok_cons ty21 (fok_cons ty22 (fok_cons ty23 (fok_cons ty29 (fok_cons ty30 (fok_cons ty32 (fok_cons ty33 (fok_cons ty38 (fok_cons ty47 (fok_cons ty55 (fok_cons ty63 (fok_cons ty64 (fok_cons ty66 (fok_cons ty73 (fok_cons ty75 (fok_cons ty76 (fok_cons ty79 (fok_cons ty84 (fok_cons ty85 (fok_cons ty101 (fok_cons ty106 (fok_cons ty109 (fok_cons ty117 (fok_cons ty119 (fok_cons ty120 (fok_cons ty124 (fok_cons ty126 (fok_cons ty138 (fok_nil))))))))))))))))))))))))))))))))))

end Go.Proofs.Ytmcpjnaedgpenaa
