/- The table of the types of this translation. Written by a program (gentab.py). -/
import Derived.Test.YtlcndghaendieaaProg
import Derived.Test.YtlcndghaendieaaCb
set_option linter.unusedVariables false
set_option linter.unusedSimpArgs false
set_option maxRecDepth 100000
namespace Go.Proofs.Ytlcndghaendieaa
open Go Go.Ideal

def tabL : List (Nat × TD) := [(2, { size := 1, bytes := 8, ik := some .i64, zero := [.num .i64 0] }),
  (3, { size := 1, bytes := 8, ik := some .i64, zero := [.num .i64 0] }),
  (4, { size := 1, bytes := 1, bl := true, zero := [.bool false] }),
  (5, { size := 1, bytes := 1, ik := some .u8, zero := [.num .u8 0] }),
  (9, { size := 1, bytes := 16, st := true, zero := [.str (ByteArray.mk #[])] }),
  (12, { size := 1, bytes := 8, ik := some .u64, zero := [.num .u64 0] }),
  (21, { size := 1, bytes := 4, ik := some .i32, zero := [.num .i32 0] }),
  (22, { size := 1, bytes := 24, elem := 5, zero := [.nils] }),
  (23, { size := 1, bytes := 24, elem := 28, zero := [.nils] }),
  (26, { size := 1, bytes := 24, elem := 30, zero := [.nils] }),
  (27, { size := 2, bytes := 16, offs := [(0, 1), (1, 1)], zero := [.num .i64 0, .num .i64 0], eqb := true }),
  (28, { size := 2, bytes := 16, offs := [(0, 1), (1, 1)], zero := [.num .i64 0, .num .i64 0], eqb := true }),
  (29, { size := 4, bytes := 32, offs := [(0, 2), (2, 2)], zero := [.num .i64 0, .num .i64 0, .num .i64 0, .num .i64 0], eqb := true }),
  (30, { size := 4, bytes := 32, offs := [(0, 2), (2, 2)], zero := [.num .i64 0, .num .i64 0, .num .i64 0, .num .i64 0], eqb := true }),
  (32, { size := 1, bytes := 24, elem := 59, zero := [.nils] }),
  (39, { size := 1, bytes := 24, elem := 69, zero := [.nils] }),
  (45, { size := 1, bytes := 24, elem := 72, zero := [.nils] }),
  (55, { size := 1, bytes := 8, zero := [.nilp] }),
  (58, { size := 2, bytes := 16, offs := [(0, 1), (1, 1)], zero := [.num .i64 0, .num .i64 0], eqb := true }),
  (59, { size := 2, bytes := 16, offs := [(0, 1), (1, 1)], zero := [.num .i64 0, .num .i64 0], eqb := true }),
  (69, { size := 2, bytes := 16, offs := [(0, 1), (1, 1)], zero := [.num .i64 0, .num .i64 0], eqb := true }),
  (72, { size := 1, bytes := 24, elem := 3, zero := [.nils] }),
  (85, { size := 2, bytes := 32, offs := [(0, 1), (1, 1)], zero := [.nils, .num .i64 0] }),
  (86, { size := 2, bytes := 32, offs := [(0, 1), (1, 1)], zero := [.nils, .num .i64 0] }),
  (104, { size := 1, bytes := 24, elem := 23, zero := [.nils] }),
  (115, { size := 1, bytes := 8, ik := some .u64, zero := [.num .u64 0] }),
  (117, { size := 1, bytes := 8, ik := some .i64, zero := [.num .i64 0] }),
  (125, { size := 1, bytes := 4, ik := some .u32, zero := [.num .u32 0] }),
  (127, { size := 1, bytes := 8, ik := some .u64, zero := [.num .u64 0] }),
  (128, { size := 1, bytes := 8, ik := some .u64, zero := [.num .u64 0] }),
  (132, { size := 1, bytes := 8, zero := [.nilp] }),
  (134, { size := 1, bytes := 8, zero := [.nilp] }),
  (147, { size := 1, bytes := 8, zero := [.nilp] })]
def tab : Nat → TD := lkD tabL

theorem tab2 : tab 2 = { size := 1, bytes := 8, ik := some .i64, zero := [.num .i64 0] } := rfl
theorem tab3 : tab 3 = { size := 1, bytes := 8, ik := some .i64, zero := [.num .i64 0] } := rfl
theorem tab4 : tab 4 = { size := 1, bytes := 1, bl := true, zero := [.bool false] } := rfl
theorem tab5 : tab 5 = { size := 1, bytes := 1, ik := some .u8, zero := [.num .u8 0] } := rfl
theorem tab9 : tab 9 = { size := 1, bytes := 16, st := true, zero := [.str (ByteArray.mk #[])] } := rfl
theorem tab12 : tab 12 = { size := 1, bytes := 8, ik := some .u64, zero := [.num .u64 0] } := rfl
theorem tab21 : tab 21 = { size := 1, bytes := 4, ik := some .i32, zero := [.num .i32 0] } := rfl
theorem tab22 : tab 22 = { size := 1, bytes := 24, elem := 5, zero := [.nils] } := rfl
theorem tab23 : tab 23 = { size := 1, bytes := 24, elem := 28, zero := [.nils] } := rfl
theorem tab26 : tab 26 = { size := 1, bytes := 24, elem := 30, zero := [.nils] } := rfl
theorem tab27 : tab 27 = { size := 2, bytes := 16, offs := [(0, 1), (1, 1)], zero := [.num .i64 0, .num .i64 0], eqb := true } := rfl
theorem tab28 : tab 28 = { size := 2, bytes := 16, offs := [(0, 1), (1, 1)], zero := [.num .i64 0, .num .i64 0], eqb := true } := rfl
theorem tab29 : tab 29 = { size := 4, bytes := 32, offs := [(0, 2), (2, 2)], zero := [.num .i64 0, .num .i64 0, .num .i64 0, .num .i64 0], eqb := true } := rfl
theorem tab30 : tab 30 = { size := 4, bytes := 32, offs := [(0, 2), (2, 2)], zero := [.num .i64 0, .num .i64 0, .num .i64 0, .num .i64 0], eqb := true } := rfl
theorem tab32 : tab 32 = { size := 1, bytes := 24, elem := 59, zero := [.nils] } := rfl
theorem tab39 : tab 39 = { size := 1, bytes := 24, elem := 69, zero := [.nils] } := rfl
theorem tab45 : tab 45 = { size := 1, bytes := 24, elem := 72, zero := [.nils] } := rfl
theorem tab55 : tab 55 = { size := 1, bytes := 8, zero := [.nilp] } := rfl
theorem tab58 : tab 58 = { size := 2, bytes := 16, offs := [(0, 1), (1, 1)], zero := [.num .i64 0, .num .i64 0], eqb := true } := rfl
theorem tab59 : tab 59 = { size := 2, bytes := 16, offs := [(0, 1), (1, 1)], zero := [.num .i64 0, .num .i64 0], eqb := true } := rfl
theorem tab69 : tab 69 = { size := 2, bytes := 16, offs := [(0, 1), (1, 1)], zero := [.num .i64 0, .num .i64 0], eqb := true } := rfl
theorem tab72 : tab 72 = { size := 1, bytes := 24, elem := 3, zero := [.nils] } := rfl
theorem tab85 : tab 85 = { size := 2, bytes := 32, offs := [(0, 1), (1, 1)], zero := [.nils, .num .i64 0] } := rfl
theorem tab86 : tab 86 = { size := 2, bytes := 32, offs := [(0, 1), (1, 1)], zero := [.nils, .num .i64 0] } := rfl
theorem tab104 : tab 104 = { size := 1, bytes := 24, elem := 23, zero := [.nils] } := rfl
theorem tab115 : tab 115 = { size := 1, bytes := 8, ik := some .u64, zero := [.num .u64 0] } := rfl
theorem tab117 : tab 117 = { size := 1, bytes := 8, ik := some .i64, zero := [.num .i64 0] } := rfl
theorem tab125 : tab 125 = { size := 1, bytes := 4, ik := some .u32, zero := [.num .u32 0] } := rfl
theorem tab127 : tab 127 = { size := 1, bytes := 8, ik := some .u64, zero := [.num .u64 0] } := rfl
theorem tab128 : tab 128 = { size := 1, bytes := 8, ik := some .u64, zero := [.num .u64 0] } := rfl
theorem tab132 : tab 132 = { size := 1, bytes := 8, zero := [.nilp] } := rfl
theorem tab134 : tab 134 = { size := 1, bytes := 8, zero := [.nilp] } := rfl
theorem tab147 : tab 147 = { size := 1, bytes := 8, zero := [.nilp] } := rfl

theorem inf2 : (Try.prog.info? 2).map (fun i => (i.size, i.bytes, i.zero)) = some (1, 8, some (.int .i64 0)) := by kernel_rfl
theorem inf3 : (Try.prog.info? 3).map (fun i => (i.size, i.bytes, i.zero)) = some (1, 8, some (.int .i64 0)) := by kernel_rfl
theorem inf4 : (Try.prog.info? 4).map (fun i => (i.size, i.bytes, i.zero)) = some (1, 1, some (.bool false)) := by kernel_rfl
theorem inf5 : (Try.prog.info? 5).map (fun i => (i.size, i.bytes, i.zero)) = some (1, 1, some (.int .u8 0)) := by kernel_rfl
theorem inf9 : (Try.prog.info? 9).map (fun i => (i.size, i.bytes, i.zero)) = some (1, 16, some (.string (ByteArray.mk #[]))) := by kernel_rfl
theorem inf12 : (Try.prog.info? 12).map (fun i => (i.size, i.bytes, i.zero)) = some (1, 8, some (.int .u64 0)) := by kernel_rfl
theorem inf21 : (Try.prog.info? 21).map (fun i => (i.size, i.bytes, i.zero)) = some (1, 4, some (.int .i32 0)) := by kernel_rfl
theorem inf22 : (Try.prog.info? 22).map (fun i => (i.size, i.bytes, i.zero)) = some (1, 24, some (.slice none 0 0)) := by kernel_rfl
theorem inf23 : (Try.prog.info? 23).map (fun i => (i.size, i.bytes, i.zero)) = some (1, 24, some (.slice none 0 0)) := by kernel_rfl
theorem inf26 : (Try.prog.info? 26).map (fun i => (i.size, i.bytes, i.zero)) = some (1, 24, some (.slice none 0 0)) := by kernel_rfl
theorem inf27 : (Try.prog.info? 27).map (fun i => (i.size, i.bytes, i.zero)) = some (2, 16, some (.agg #[.int .i64 0, .int .i64 0])) := by kernel_rfl
theorem inf28 : (Try.prog.info? 28).map (fun i => (i.size, i.bytes, i.zero)) = some (2, 16, some (.agg #[.int .i64 0, .int .i64 0])) := by kernel_rfl
theorem inf29 : (Try.prog.info? 29).map (fun i => (i.size, i.bytes, i.zero)) = some (4, 32, some (.agg #[.int .i64 0, .int .i64 0, .int .i64 0, .int .i64 0])) := by kernel_rfl
theorem inf30 : (Try.prog.info? 30).map (fun i => (i.size, i.bytes, i.zero)) = some (4, 32, some (.agg #[.int .i64 0, .int .i64 0, .int .i64 0, .int .i64 0])) := by kernel_rfl
theorem inf32 : (Try.prog.info? 32).map (fun i => (i.size, i.bytes, i.zero)) = some (1, 24, some (.slice none 0 0)) := by kernel_rfl
theorem inf39 : (Try.prog.info? 39).map (fun i => (i.size, i.bytes, i.zero)) = some (1, 24, some (.slice none 0 0)) := by kernel_rfl
theorem inf45 : (Try.prog.info? 45).map (fun i => (i.size, i.bytes, i.zero)) = some (1, 24, some (.slice none 0 0)) := by kernel_rfl
theorem inf55 : (Try.prog.info? 55).map (fun i => (i.size, i.bytes, i.zero)) = some (1, 8, some (.pointer none)) := by kernel_rfl
theorem inf58 : (Try.prog.info? 58).map (fun i => (i.size, i.bytes, i.zero)) = some (2, 16, some (.agg #[.int .i64 0, .int .i64 0])) := by kernel_rfl
theorem inf59 : (Try.prog.info? 59).map (fun i => (i.size, i.bytes, i.zero)) = some (2, 16, some (.agg #[.int .i64 0, .int .i64 0])) := by kernel_rfl
theorem inf69 : (Try.prog.info? 69).map (fun i => (i.size, i.bytes, i.zero)) = some (2, 16, some (.agg #[.int .i64 0, .int .i64 0])) := by kernel_rfl
theorem inf72 : (Try.prog.info? 72).map (fun i => (i.size, i.bytes, i.zero)) = some (1, 24, some (.slice none 0 0)) := by kernel_rfl
theorem inf85 : (Try.prog.info? 85).map (fun i => (i.size, i.bytes, i.zero)) = some (2, 32, some (.agg #[.slice none 0 0, .int .i64 0])) := by kernel_rfl
theorem inf86 : (Try.prog.info? 86).map (fun i => (i.size, i.bytes, i.zero)) = some (2, 32, some (.agg #[.slice none 0 0, .int .i64 0])) := by kernel_rfl
theorem inf104 : (Try.prog.info? 104).map (fun i => (i.size, i.bytes, i.zero)) = some (1, 24, some (.slice none 0 0)) := by kernel_rfl
theorem inf115 : (Try.prog.info? 115).map (fun i => (i.size, i.bytes, i.zero)) = some (1, 8, some (.int .u64 0)) := by kernel_rfl
theorem inf117 : (Try.prog.info? 117).map (fun i => (i.size, i.bytes, i.zero)) = some (1, 8, some (.int .i64 0)) := by kernel_rfl
theorem inf125 : (Try.prog.info? 125).map (fun i => (i.size, i.bytes, i.zero)) = some (1, 4, some (.int .u32 0)) := by kernel_rfl
theorem inf127 : (Try.prog.info? 127).map (fun i => (i.size, i.bytes, i.zero)) = some (1, 8, some (.int .u64 0)) := by kernel_rfl
theorem inf128 : (Try.prog.info? 128).map (fun i => (i.size, i.bytes, i.zero)) = some (1, 8, some (.int .u64 0)) := by kernel_rfl
theorem inf132 : (Try.prog.info? 132).map (fun i => (i.size, i.bytes, i.zero)) = some (1, 8, some (.pointer none)) := by kernel_rfl
theorem inf134 : (Try.prog.info? 134).map (fun i => (i.size, i.bytes, i.zero)) = some (1, 8, some (.pointer none)) := by kernel_rfl
theorem inf147 : (Try.prog.info? 147).map (fun i => (i.size, i.bytes, i.zero)) = some (1, 8, some (.pointer none)) := by kernel_rfl
theorem ty2 : TyOK Try.prog 2 { size := 1, bytes := 8, ik := some .i64, zero := [.num .i64 0] } := by
  have hu := Try.underlying2
  refine tyOK_mk inf2 hu (by simp [EltOk, Value.cells, Value.oneCell', isAggV]) (fun c => by simp [Value.cells, RepL, RepV]) (by intro w; simp [isAgg, run_underlying hu]) (by intro h; exact absurd rfl h) (by intro i x s h; simp at h) (by intro h; exact absurd rfl h) (by intro k h; simp at h; subst h; exact hu) (by intro h; simp at h) (by intro h; simp at h) (by intro h; simp at h) (by intro h; exact absurd rfl h)
theorem ty3 : TyOK Try.prog 3 { size := 1, bytes := 8, ik := some .i64, zero := [.num .i64 0] } := by
  have hu := Try.underlying3
  refine tyOK_mk inf3 hu (by simp [EltOk, Value.cells, Value.oneCell', isAggV]) (fun c => by simp [Value.cells, RepL, RepV]) (by intro w; simp [isAgg, run_underlying hu]) (by intro h; exact absurd rfl h) (by intro i x s h; simp at h) (by intro h; exact absurd rfl h) (by intro k h; simp at h; subst h; exact hu) (by intro h; simp at h) (by intro h; simp at h) (by intro h; simp at h) (by intro h; exact absurd rfl h)
theorem ty4 : TyOK Try.prog 4 { size := 1, bytes := 1, bl := true, zero := [.bool false] } := by
  have hu := Try.underlying4
  refine tyOK_mk inf4 hu (by simp [EltOk, Value.cells, Value.oneCell', isAggV]) (fun c => by simp [Value.cells, RepL, RepV]) (by intro w; simp [isAgg, run_underlying hu]) (by intro h; exact absurd rfl h) (by intro i x s h; simp at h) (by intro h; exact absurd rfl h) (by intro k h; simp at h) (by intro h; exact hu) (by intro h; simp at h) (by intro h; simp at h) (by intro h; exact absurd rfl h)
theorem ty5 : TyOK Try.prog 5 { size := 1, bytes := 1, ik := some .u8, zero := [.num .u8 0] } := by
  have hu := Try.underlying5
  refine tyOK_mk inf5 hu (by simp [EltOk, Value.cells, Value.oneCell', isAggV]) (fun c => by simp [Value.cells, RepL, RepV]) (by intro w; simp [isAgg, run_underlying hu]) (by intro h; exact absurd rfl h) (by intro i x s h; simp at h) (by intro h; exact absurd rfl h) (by intro k h; simp at h; subst h; exact hu) (by intro h; simp at h) (by intro h; simp at h) (by intro h; simp at h) (by intro h; exact absurd rfl h)
theorem ty9 : TyOK Try.prog 9 { size := 1, bytes := 16, st := true, zero := [.str (ByteArray.mk #[])] } := by
  have hu := Try.underlying9
  refine tyOK_mk inf9 hu (by simp [EltOk, Value.cells, Value.oneCell', isAggV]) (fun c => by simp [Value.cells, RepL, RepV]) (by intro w; simp [isAgg, run_underlying hu]) (by intro h; exact absurd rfl h) (by intro i x s h; simp at h) (by intro h; exact absurd rfl h) (by intro k h; simp at h) (by intro h; simp at h) (by intro h; exact hu) (by intro h; simp at h) (by intro h; exact absurd rfl h)
theorem ty12 : TyOK Try.prog 12 { size := 1, bytes := 8, ik := some .u64, zero := [.num .u64 0] } := by
  have hu := Try.underlying12
  refine tyOK_mk inf12 hu (by simp [EltOk, Value.cells, Value.oneCell', isAggV]) (fun c => by simp [Value.cells, RepL, RepV]) (by intro w; simp [isAgg, run_underlying hu]) (by intro h; exact absurd rfl h) (by intro i x s h; simp at h) (by intro h; exact absurd rfl h) (by intro k h; simp at h; subst h; exact hu) (by intro h; simp at h) (by intro h; simp at h) (by intro h; simp at h) (by intro h; exact absurd rfl h)
theorem ty21 : TyOK Try.prog 21 { size := 1, bytes := 4, ik := some .i32, zero := [.num .i32 0] } := by
  have hu := Try.underlying21
  refine tyOK_mk inf21 hu (by simp [EltOk, Value.cells, Value.oneCell', isAggV]) (fun c => by simp [Value.cells, RepL, RepV]) (by intro w; simp [isAgg, run_underlying hu]) (by intro h; exact absurd rfl h) (by intro i x s h; simp at h) (by intro h; exact absurd rfl h) (by intro k h; simp at h; subst h; exact hu) (by intro h; simp at h) (by intro h; simp at h) (by intro h; simp at h) (by intro h; exact absurd rfl h)
theorem ty22 : TyOK Try.prog 22 { size := 1, bytes := 24, elem := 5, zero := [.nils] } := by
  have hu := Try.underlying22
  refine tyOK_mk inf22 hu (by simp [EltOk, Value.cells, Value.oneCell', isAggV]) (fun c => by simp [Value.cells, RepL, RepV]) (by intro w; simp [isAgg, run_underlying hu]) (by intro h; exact hu) (by intro i x s h; simp at h) (by intro h; exact absurd rfl h) (by intro k h; simp at h) (by intro h; simp at h) (by intro h; simp at h) (by intro h; simp at h) (by intro h; exact absurd rfl h)
theorem ty23 : TyOK Try.prog 23 { size := 1, bytes := 24, elem := 28, zero := [.nils] } := by
  have hu := Try.underlying23
  refine tyOK_mk inf23 hu (by simp [EltOk, Value.cells, Value.oneCell', isAggV]) (fun c => by simp [Value.cells, RepL, RepV]) (by intro w; simp [isAgg, run_underlying hu]) (by intro h; exact hu) (by intro i x s h; simp at h) (by intro h; exact absurd rfl h) (by intro k h; simp at h) (by intro h; simp at h) (by intro h; simp at h) (by intro h; simp at h) (by intro h; exact absurd rfl h)
theorem ty26 : TyOK Try.prog 26 { size := 1, bytes := 24, elem := 30, zero := [.nils] } := by
  have hu := Try.underlying26
  refine tyOK_mk inf26 hu (by simp [EltOk, Value.cells, Value.oneCell', isAggV]) (fun c => by simp [Value.cells, RepL, RepV]) (by intro w; simp [isAgg, run_underlying hu]) (by intro h; exact hu) (by intro i x s h; simp at h) (by intro h; exact absurd rfl h) (by intro k h; simp at h) (by intro h; simp at h) (by intro h; simp at h) (by intro h; simp at h) (by intro h; exact absurd rfl h)
theorem ty32 : TyOK Try.prog 32 { size := 1, bytes := 24, elem := 59, zero := [.nils] } := by
  have hu := Try.underlying32
  refine tyOK_mk inf32 hu (by simp [EltOk, Value.cells, Value.oneCell', isAggV]) (fun c => by simp [Value.cells, RepL, RepV]) (by intro w; simp [isAgg, run_underlying hu]) (by intro h; exact hu) (by intro i x s h; simp at h) (by intro h; exact absurd rfl h) (by intro k h; simp at h) (by intro h; simp at h) (by intro h; simp at h) (by intro h; simp at h) (by intro h; exact absurd rfl h)
theorem ty39 : TyOK Try.prog 39 { size := 1, bytes := 24, elem := 69, zero := [.nils] } := by
  have hu := Try.underlying39
  refine tyOK_mk inf39 hu (by simp [EltOk, Value.cells, Value.oneCell', isAggV]) (fun c => by simp [Value.cells, RepL, RepV]) (by intro w; simp [isAgg, run_underlying hu]) (by intro h; exact hu) (by intro i x s h; simp at h) (by intro h; exact absurd rfl h) (by intro k h; simp at h) (by intro h; simp at h) (by intro h; simp at h) (by intro h; simp at h) (by intro h; exact absurd rfl h)
theorem ty45 : TyOK Try.prog 45 { size := 1, bytes := 24, elem := 72, zero := [.nils] } := by
  have hu := Try.underlying45
  refine tyOK_mk inf45 hu (by simp [EltOk, Value.cells, Value.oneCell', isAggV]) (fun c => by simp [Value.cells, RepL, RepV]) (by intro w; simp [isAgg, run_underlying hu]) (by intro h; exact hu) (by intro i x s h; simp at h) (by intro h; exact absurd rfl h) (by intro k h; simp at h) (by intro h; simp at h) (by intro h; simp at h) (by intro h; simp at h) (by intro h; exact absurd rfl h)
theorem ty55 : TyOK Try.prog 55 { size := 1, bytes := 8, zero := [.nilp] } := by
  have hu := Try.underlying55
  refine tyOK_mk inf55 hu (by simp [EltOk, Value.cells, Value.oneCell', isAggV]) (fun c => by simp [Value.cells, RepL, RepV]) (by intro w; simp [isAgg, run_underlying hu]) (by intro h; exact absurd rfl h) (by intro i x s h; simp at h) (by intro h; exact absurd rfl h) (by intro k h; simp at h) (by intro h; simp at h) (by intro h; simp at h) (by intro h; simp at h) (by intro h; exact absurd rfl h)
theorem ty72 : TyOK Try.prog 72 { size := 1, bytes := 24, elem := 3, zero := [.nils] } := by
  have hu := Try.underlying72
  refine tyOK_mk inf72 hu (by simp [EltOk, Value.cells, Value.oneCell', isAggV]) (fun c => by simp [Value.cells, RepL, RepV]) (by intro w; simp [isAgg, run_underlying hu]) (by intro h; exact hu) (by intro i x s h; simp at h) (by intro h; exact absurd rfl h) (by intro k h; simp at h) (by intro h; simp at h) (by intro h; simp at h) (by intro h; simp at h) (by intro h; exact absurd rfl h)
theorem ty104 : TyOK Try.prog 104 { size := 1, bytes := 24, elem := 23, zero := [.nils] } := by
  have hu := Try.underlying104
  refine tyOK_mk inf104 hu (by simp [EltOk, Value.cells, Value.oneCell', isAggV]) (fun c => by simp [Value.cells, RepL, RepV]) (by intro w; simp [isAgg, run_underlying hu]) (by intro h; exact hu) (by intro i x s h; simp at h) (by intro h; exact absurd rfl h) (by intro k h; simp at h) (by intro h; simp at h) (by intro h; simp at h) (by intro h; simp at h) (by intro h; exact absurd rfl h)
theorem ty115 : TyOK Try.prog 115 { size := 1, bytes := 8, ik := some .u64, zero := [.num .u64 0] } := by
  have hu := Try.underlying115
  refine tyOK_mk inf115 hu (by simp [EltOk, Value.cells, Value.oneCell', isAggV]) (fun c => by simp [Value.cells, RepL, RepV]) (by intro w; simp [isAgg, run_underlying hu]) (by intro h; exact absurd rfl h) (by intro i x s h; simp at h) (by intro h; exact absurd rfl h) (by intro k h; simp at h; subst h; exact hu) (by intro h; simp at h) (by intro h; simp at h) (by intro h; simp at h) (by intro h; exact absurd rfl h)
theorem ty117 : TyOK Try.prog 117 { size := 1, bytes := 8, ik := some .i64, zero := [.num .i64 0] } := by
  have hu := Try.underlying117
  refine tyOK_mk inf117 hu (by simp [EltOk, Value.cells, Value.oneCell', isAggV]) (fun c => by simp [Value.cells, RepL, RepV]) (by intro w; simp [isAgg, run_underlying hu]) (by intro h; exact absurd rfl h) (by intro i x s h; simp at h) (by intro h; exact absurd rfl h) (by intro k h; simp at h; subst h; exact hu) (by intro h; simp at h) (by intro h; simp at h) (by intro h; simp at h) (by intro h; exact absurd rfl h)
theorem ty125 : TyOK Try.prog 125 { size := 1, bytes := 4, ik := some .u32, zero := [.num .u32 0] } := by
  have hu := Try.underlying125
  refine tyOK_mk inf125 hu (by simp [EltOk, Value.cells, Value.oneCell', isAggV]) (fun c => by simp [Value.cells, RepL, RepV]) (by intro w; simp [isAgg, run_underlying hu]) (by intro h; exact absurd rfl h) (by intro i x s h; simp at h) (by intro h; exact absurd rfl h) (by intro k h; simp at h; subst h; exact hu) (by intro h; simp at h) (by intro h; simp at h) (by intro h; simp at h) (by intro h; exact absurd rfl h)
theorem ty127 : TyOK Try.prog 127 { size := 1, bytes := 8, ik := some .u64, zero := [.num .u64 0] } := by
  have hu := Try.underlying127
  refine tyOK_mk inf127 hu (by simp [EltOk, Value.cells, Value.oneCell', isAggV]) (fun c => by simp [Value.cells, RepL, RepV]) (by intro w; simp [isAgg, run_underlying hu]) (by intro h; exact absurd rfl h) (by intro i x s h; simp at h) (by intro h; exact absurd rfl h) (by intro k h; simp at h; subst h; exact hu) (by intro h; simp at h) (by intro h; simp at h) (by intro h; simp at h) (by intro h; exact absurd rfl h)
theorem ty128 : TyOK Try.prog 128 { size := 1, bytes := 8, ik := some .u64, zero := [.num .u64 0] } := by
  have hu := Try.underlying128
  refine tyOK_mk inf128 hu (by simp [EltOk, Value.cells, Value.oneCell', isAggV]) (fun c => by simp [Value.cells, RepL, RepV]) (by intro w; simp [isAgg, run_underlying hu]) (by intro h; exact absurd rfl h) (by intro i x s h; simp at h) (by intro h; exact absurd rfl h) (by intro k h; simp at h; subst h; exact hu) (by intro h; simp at h) (by intro h; simp at h) (by intro h; simp at h) (by intro h; exact absurd rfl h)
theorem ty132 : TyOK Try.prog 132 { size := 1, bytes := 8, zero := [.nilp] } := by
  have hu := Try.underlying132
  refine tyOK_mk inf132 hu (by simp [EltOk, Value.cells, Value.oneCell', isAggV]) (fun c => by simp [Value.cells, RepL, RepV]) (by intro w; simp [isAgg, run_underlying hu]) (by intro h; exact absurd rfl h) (by intro i x s h; simp at h) (by intro h; exact absurd rfl h) (by intro k h; simp at h) (by intro h; simp at h) (by intro h; simp at h) (by intro h; simp at h) (by intro h; exact absurd rfl h)
theorem ty134 : TyOK Try.prog 134 { size := 1, bytes := 8, zero := [.nilp] } := by
  have hu := Try.underlying134
  refine tyOK_mk inf134 hu (by simp [EltOk, Value.cells, Value.oneCell', isAggV]) (fun c => by simp [Value.cells, RepL, RepV]) (by intro w; simp [isAgg, run_underlying hu]) (by intro h; exact absurd rfl h) (by intro i x s h; simp at h) (by intro h; exact absurd rfl h) (by intro k h; simp at h) (by intro h; simp at h) (by intro h; simp at h) (by intro h; simp at h) (by intro h; exact absurd rfl h)
theorem ty147 : TyOK Try.prog 147 { size := 1, bytes := 8, zero := [.nilp] } := by
  have hu := Try.underlying147
  refine tyOK_mk inf147 hu (by simp [EltOk, Value.cells, Value.oneCell', isAggV]) (fun c => by simp [Value.cells, RepL, RepV]) (by intro w; simp [isAgg, run_underlying hu]) (by intro h; exact absurd rfl h) (by intro i x s h; simp at h) (by intro h; exact absurd rfl h) (by intro k h; simp at h) (by intro h; simp at h) (by intro h; simp at h) (by intro h; simp at h) (by intro h; exact absurd rfl h)
theorem ty27 : TyOK Try.prog 27 { size := 2, bytes := 16, offs := [(0, 1), (1, 1)], zero := [.num .i64 0, .num .i64 0], eqb := true } := by
  have hu := Try.underlying27
  refine tyOK_mk inf27 hu (by simp [EltOk, Value.cells, Value.oneCell', isAggV]) (fun c => by simp [Value.cells, RepL, RepV]) (by intro w; simp [isAgg, run_underlying hu]) (by intro h; exact absurd rfl h) (by
    intro i x s h
    match i, h with
    | 0, h => simp at h; obtain ⟨rfl, rfl⟩ := h; exact ⟨_, _, hu, rfl, rfl, by decide, ty3.size, ty3.agg, rfl⟩
    | 1, h => simp at h; obtain ⟨rfl, rfl⟩ := h; exact ⟨_, _, hu, rfl, rfl, by decide, ty3.size, ty3.agg, rfl⟩
    | n + 2, h => simp at h) (by intro _; exact ⟨_, hu, fun w => by simp [ty3.size]⟩) (by intro k h; simp at h) (by intro h; simp at h) (by intro h; simp at h) (fun _ => eqg_flat (by kernel_rfl) (by kernel_rfl) hu 2 (key2 ⟨by decide, Try.underlying3⟩ ⟨by decide, Try.underlying3⟩ rfl rfl)) (by intro h; exact absurd rfl h)
theorem ty28 : TyOK Try.prog 28 { size := 2, bytes := 16, offs := [(0, 1), (1, 1)], zero := [.num .i64 0, .num .i64 0], eqb := true } := by
  have hu := Try.underlying28
  refine tyOK_mk inf28 hu (by simp [EltOk, Value.cells, Value.oneCell', isAggV]) (fun c => by simp [Value.cells, RepL, RepV]) (by intro w; simp [isAgg, run_underlying hu]) (by intro h; exact absurd rfl h) (by
    intro i x s h
    match i, h with
    | 0, h => simp at h; obtain ⟨rfl, rfl⟩ := h; exact ⟨_, _, hu, rfl, rfl, by decide, ty3.size, ty3.agg, rfl⟩
    | 1, h => simp at h; obtain ⟨rfl, rfl⟩ := h; exact ⟨_, _, hu, rfl, rfl, by decide, ty3.size, ty3.agg, rfl⟩
    | n + 2, h => simp at h) (by intro _; exact ⟨_, hu, fun w => by simp [ty3.size]⟩) (by intro k h; simp at h) (by intro h; simp at h) (by intro h; simp at h) (fun _ => eqg_flat (by kernel_rfl) (by kernel_rfl) hu 2 (key2 ⟨by decide, Try.underlying3⟩ ⟨by decide, Try.underlying3⟩ rfl rfl)) (by intro h; exact absurd rfl h)
theorem ty58 : TyOK Try.prog 58 { size := 2, bytes := 16, offs := [(0, 1), (1, 1)], zero := [.num .i64 0, .num .i64 0], eqb := true } := by
  have hu := Try.underlying58
  refine tyOK_mk inf58 hu (by simp [EltOk, Value.cells, Value.oneCell', isAggV]) (fun c => by simp [Value.cells, RepL, RepV]) (by intro w; simp [isAgg, run_underlying hu]) (by intro h; exact absurd rfl h) (by
    intro i x s h
    match i, h with
    | 0, h => simp at h; obtain ⟨rfl, rfl⟩ := h; exact ⟨_, _, hu, rfl, rfl, by decide, ty3.size, ty3.agg, rfl⟩
    | 1, h => simp at h; obtain ⟨rfl, rfl⟩ := h; exact ⟨_, _, hu, rfl, rfl, by decide, ty3.size, ty3.agg, rfl⟩
    | n + 2, h => simp at h) (by intro _; exact ⟨_, hu, fun w => by simp [ty3.size]⟩) (by intro k h; simp at h) (by intro h; simp at h) (by intro h; simp at h) (fun _ => eqg_flat (by kernel_rfl) (by kernel_rfl) hu 2 (key2 ⟨by decide, Try.underlying3⟩ ⟨by decide, Try.underlying3⟩ rfl rfl)) (by intro h; exact absurd rfl h)
theorem ty59 : TyOK Try.prog 59 { size := 2, bytes := 16, offs := [(0, 1), (1, 1)], zero := [.num .i64 0, .num .i64 0], eqb := true } := by
  have hu := Try.underlying59
  refine tyOK_mk inf59 hu (by simp [EltOk, Value.cells, Value.oneCell', isAggV]) (fun c => by simp [Value.cells, RepL, RepV]) (by intro w; simp [isAgg, run_underlying hu]) (by intro h; exact absurd rfl h) (by
    intro i x s h
    match i, h with
    | 0, h => simp at h; obtain ⟨rfl, rfl⟩ := h; exact ⟨_, _, hu, rfl, rfl, by decide, ty3.size, ty3.agg, rfl⟩
    | 1, h => simp at h; obtain ⟨rfl, rfl⟩ := h; exact ⟨_, _, hu, rfl, rfl, by decide, ty3.size, ty3.agg, rfl⟩
    | n + 2, h => simp at h) (by intro _; exact ⟨_, hu, fun w => by simp [ty3.size]⟩) (by intro k h; simp at h) (by intro h; simp at h) (by intro h; simp at h) (fun _ => eqg_flat (by kernel_rfl) (by kernel_rfl) hu 2 (key2 ⟨by decide, Try.underlying3⟩ ⟨by decide, Try.underlying3⟩ rfl rfl)) (by intro h; exact absurd rfl h)
theorem ty69 : TyOK Try.prog 69 { size := 2, bytes := 16, offs := [(0, 1), (1, 1)], zero := [.num .i64 0, .num .i64 0], eqb := true } := by
  have hu := Try.underlying69
  refine tyOK_mk inf69 hu (by simp [EltOk, Value.cells, Value.oneCell', isAggV]) (fun c => by simp [Value.cells, RepL, RepV]) (by intro w; simp [isAgg, run_underlying hu]) (by intro h; exact absurd rfl h) (by
    intro i x s h
    match i, h with
    | 0, h => simp at h; obtain ⟨rfl, rfl⟩ := h; exact ⟨_, _, hu, rfl, rfl, by decide, ty3.size, ty3.agg, rfl⟩
    | 1, h => simp at h; obtain ⟨rfl, rfl⟩ := h; exact ⟨_, _, hu, rfl, rfl, by decide, ty3.size, ty3.agg, rfl⟩
    | n + 2, h => simp at h) (by intro _; exact ⟨_, hu, fun w => by simp [ty3.size]⟩) (by intro k h; simp at h) (by intro h; simp at h) (by intro h; simp at h) (fun _ => eqg_flat (by kernel_rfl) (by kernel_rfl) hu 2 (key2 ⟨by decide, Try.underlying3⟩ ⟨by decide, Try.underlying3⟩ rfl rfl)) (by intro h; exact absurd rfl h)
theorem ty85 : TyOK Try.prog 85 { size := 2, bytes := 32, offs := [(0, 1), (1, 1)], zero := [.nils, .num .i64 0] } := by
  have hu := Try.underlying85
  refine tyOK_mk inf85 hu (by simp [EltOk, Value.cells, Value.oneCell', isAggV]) (fun c => by simp [Value.cells, RepL, RepV]) (by intro w; simp [isAgg, run_underlying hu]) (by intro h; exact absurd rfl h) (by
    intro i x s h
    match i, h with
    | 0, h => simp at h; obtain ⟨rfl, rfl⟩ := h; exact ⟨_, _, hu, rfl, rfl, by decide, ty22.size, ty22.agg, rfl⟩
    | 1, h => simp at h; obtain ⟨rfl, rfl⟩ := h; exact ⟨_, _, hu, rfl, rfl, by decide, ty3.size, ty3.agg, rfl⟩
    | n + 2, h => simp at h) (by intro _; exact ⟨_, hu, fun w => by simp [ty3.size, ty22.size]⟩) (by intro k h; simp at h) (by intro h; simp at h) (by intro h; simp at h) (by intro h; simp at h) (by intro h; exact absurd rfl h)
theorem ty86 : TyOK Try.prog 86 { size := 2, bytes := 32, offs := [(0, 1), (1, 1)], zero := [.nils, .num .i64 0] } := by
  have hu := Try.underlying86
  refine tyOK_mk inf86 hu (by simp [EltOk, Value.cells, Value.oneCell', isAggV]) (fun c => by simp [Value.cells, RepL, RepV]) (by intro w; simp [isAgg, run_underlying hu]) (by intro h; exact absurd rfl h) (by
    intro i x s h
    match i, h with
    | 0, h => simp at h; obtain ⟨rfl, rfl⟩ := h; exact ⟨_, _, hu, rfl, rfl, by decide, ty22.size, ty22.agg, rfl⟩
    | 1, h => simp at h; obtain ⟨rfl, rfl⟩ := h; exact ⟨_, _, hu, rfl, rfl, by decide, ty3.size, ty3.agg, rfl⟩
    | n + 2, h => simp at h) (by intro _; exact ⟨_, hu, fun w => by simp [ty3.size, ty22.size]⟩) (by intro k h; simp at h) (by intro h; simp at h) (by intro h; simp at h) (by intro h; simp at h) (by intro h; exact absurd rfl h)
theorem ty29 : TyOK Try.prog 29 { size := 4, bytes := 32, offs := [(0, 2), (2, 2)], zero := [.num .i64 0, .num .i64 0, .num .i64 0, .num .i64 0], eqb := true } := by
  have hu := Try.underlying29
  refine tyOK_mk inf29 hu (by simp [EltOk, Value.cells, Value.oneCell', isAggV]) (fun c => by simp [Value.cells, RepL, RepV]) (by intro w; simp [isAgg, run_underlying hu]) (by intro h; exact absurd rfl h) (by
    intro i x s h
    match i, h with
    | 0, h => simp at h; obtain ⟨rfl, rfl⟩ := h; exact ⟨_, _, hu, rfl, rfl, by decide, ty28.size, ty28.agg, rfl⟩
    | 1, h => simp at h; obtain ⟨rfl, rfl⟩ := h; exact ⟨_, _, hu, rfl, rfl, by decide, ty28.size, ty28.agg, rfl⟩
    | n + 2, h => simp at h) (by intro _; exact ⟨_, hu, fun w => by simp [ty28.size]⟩) (by intro k h; simp at h) (by intro h; simp at h) (by intro h; simp at h) (fun _ => eqg_flat2 (by kernel_rfl) (by kernel_rfl) hu 4 (fun d => key22 (by decide) (by decide) (by kernel_rfl) (by kernel_rfl) Try.underlying28 Try.underlying28 ty28.size ty28.size ⟨by decide, Try.underlying3⟩ ⟨by decide, Try.underlying3⟩ rfl rfl rfl rfl d)) (by intro h; exact absurd rfl h)
theorem ty30 : TyOK Try.prog 30 { size := 4, bytes := 32, offs := [(0, 2), (2, 2)], zero := [.num .i64 0, .num .i64 0, .num .i64 0, .num .i64 0], eqb := true } := by
  have hu := Try.underlying30
  refine tyOK_mk inf30 hu (by simp [EltOk, Value.cells, Value.oneCell', isAggV]) (fun c => by simp [Value.cells, RepL, RepV]) (by intro w; simp [isAgg, run_underlying hu]) (by intro h; exact absurd rfl h) (by
    intro i x s h
    match i, h with
    | 0, h => simp at h; obtain ⟨rfl, rfl⟩ := h; exact ⟨_, _, hu, rfl, rfl, by decide, ty28.size, ty28.agg, rfl⟩
    | 1, h => simp at h; obtain ⟨rfl, rfl⟩ := h; exact ⟨_, _, hu, rfl, rfl, by decide, ty28.size, ty28.agg, rfl⟩
    | n + 2, h => simp at h) (by intro _; exact ⟨_, hu, fun w => by simp [ty28.size]⟩) (by intro k h; simp at h) (by intro h; simp at h) (by intro h; simp at h) (fun _ => eqg_flat2 (by kernel_rfl) (by kernel_rfl) hu 4 (fun d => key22 (by decide) (by decide) (by kernel_rfl) (by kernel_rfl) Try.underlying28 Try.underlying28 ty28.size ty28.size ⟨by decide, Try.underlying3⟩ ⟨by decide, Try.underlying3⟩ rfl rfl rfl rfl d)) (by intro h; exact absurd rfl h)

theorem tabOK : TOK Try.prog tab := by
  refine lkD_ok ?_
  unfold tabL
  refine fok_cons ty2 (fok_cons ty3 (fok_cons ty4 (fok_cons ty5 (fok_cons ty9 (fok_cons ty12 (fok_cons ty21 (fok_cons ty22 (fok_cons ty23 (fok_cons ty26 (fok_cons ty27 (fok_cons ty28 (fok_cons ty29 (fok_cons ty30 (fok_cons ty32 (fok_cons ty39 (fok_cons ty45 (fok_cons ty55 (fok_cons ty58 (fok_cons ty59 (fok_cons ty69 (fok_cons ty72 (fok_cons ty85 (fok_cons ty86 (fok_cons ty104 (fok_cons ty115 (fok_cons ty117 (fok_cons ty125 (fok_cons ty127 (fok_cons ty128 (fok_cons ty132 (fok_cons ty134 (fok_cons ty147 (fok_nil)))))))))))))))))))))))))))))))))

end Go.Proofs.Ytlcndghaendieaa
