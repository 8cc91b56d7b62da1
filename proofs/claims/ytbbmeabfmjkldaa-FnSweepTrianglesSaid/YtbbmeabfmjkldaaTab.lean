/- The table of the types of this translation. Written by a program (gentab.py). -/
import Derived.Test.YtbbmeabfmjkldaaProg
import Derived.Test.YtbbmeabfmjkldaaCb
set_option linter.unusedVariables false
set_option linter.unusedSimpArgs false
set_option maxRecDepth 100000
namespace Go.Proofs.Ytbbmeabfmjkldaa
open Go Go.Ideal

def tabL : List (Nat × TD) := [(2, { size := 1, bytes := 8, ik := some .i64, zero := [.num .i64 0] }),
  (3, { size := 1, bytes := 8, ik := some .i64, zero := [.num .i64 0] }),
  (4, { size := 1, bytes := 1, bl := true, zero := [.bool false] }),
  (5, { size := 1, bytes := 1, ik := some .u8, zero := [.num .u8 0] }),
  (9, { size := 1, bytes := 16, st := true, zero := [.str (ByteArray.mk #[])] }),
  (12, { size := 1, bytes := 8, ik := some .u64, zero := [.num .u64 0] }),
  (21, { size := 1, bytes := 4, ik := some .i32, zero := [.num .i32 0] }),
  (22, { size := 1, bytes := 24, elem := 5, zero := [.nils] }),
  (23, { size := 1, bytes := 24, elem := 30, zero := [.nils] }),
  (24, { size := 1, bytes := 24, elem := 32, zero := [.nils] }),
  (29, { size := 2, bytes := 16, offs := [(0, 1), (1, 1)], zero := [.num .i64 0, .num .i64 0], eqb := true }),
  (30, { size := 2, bytes := 16, offs := [(0, 1), (1, 1)], zero := [.num .i64 0, .num .i64 0], eqb := true }),
  (31, { size := 3, bytes := 24, offs := [(0, 1), (1, 1), (2, 1)], zero := [.num .i64 0, .num .i64 0, .num .i64 0], eqb := true }),
  (32, { size := 3, bytes := 24, offs := [(0, 1), (1, 1), (2, 1)], zero := [.num .i64 0, .num .i64 0, .num .i64 0], eqb := true }),
  (41, { size := 1, bytes := 24, elem := 60, zero := [.nils] }),
  (50, { size := 1, bytes := 8, zero := [.nilp] }),
  (60, { size := 2, bytes := 16, offs := [(0, 1), (1, 1)], zero := [.num .i64 0, .num .i64 0], eqb := true }),
  (63, { size := 2, bytes := 32, offs := [(0, 1), (1, 1)], zero := [.nils, .num .i64 0] }),
  (64, { size := 2, bytes := 32, offs := [(0, 1), (1, 1)], zero := [.nils, .num .i64 0] }),
  (74, { size := 1, bytes := 24, elem := 3, zero := [.nils] }),
  (75, { size := 1, bytes := 24, elem := 4, zero := [.nils] }),
  (77, { size := 3, bytes := 24, zero := [.num .i64 0, .num .i64 0, .num .i64 0], alen := 3, aelem := 3, aoffs := [(0, 1), (1, 1), (2, 1)] }),
  (81, { size := 1, bytes := 24, elem := 84, zero := [.nils] }),
  (83, { size := 4, bytes := 32, offs := [(0, 2), (2, 2)], zero := [.num .i64 0, .num .i64 0, .num .i64 0, .num .i64 0], eqb := true }),
  (84, { size := 4, bytes := 32, offs := [(0, 2), (2, 2)], zero := [.num .i64 0, .num .i64 0, .num .i64 0, .num .i64 0], eqb := true }),
  (92, { size := 1, bytes := 8, ik := some .u64, zero := [.num .u64 0] }),
  (94, { size := 1, bytes := 24, elem := 23, zero := [.nils] }),
  (97, { size := 1, bytes := 8, ik := some .i64, zero := [.num .i64 0] }),
  (105, { size := 1, bytes := 4, ik := some .u32, zero := [.num .u32 0] }),
  (107, { size := 1, bytes := 8, ik := some .u64, zero := [.num .u64 0] }),
  (108, { size := 1, bytes := 8, ik := some .u64, zero := [.num .u64 0] }),
  (112, { size := 1, bytes := 8, zero := [.nilp] }),
  (114, { size := 1, bytes := 8, zero := [.nilp] }),
  (127, { size := 1, bytes := 8, zero := [.nilp] })]
def tab : Nat → TD := lkD tabL

theorem tab2 : tab 2 = { size := 1, bytes := 8, ik := some .i64, zero := [.num .i64 0] } := rfl
theorem tab3 : tab 3 = { size := 1, bytes := 8, ik := some .i64, zero := [.num .i64 0] } := rfl
theorem tab4 : tab 4 = { size := 1, bytes := 1, bl := true, zero := [.bool false] } := rfl
theorem tab5 : tab 5 = { size := 1, bytes := 1, ik := some .u8, zero := [.num .u8 0] } := rfl
theorem tab9 : tab 9 = { size := 1, bytes := 16, st := true, zero := [.str (ByteArray.mk #[])] } := rfl
theorem tab12 : tab 12 = { size := 1, bytes := 8, ik := some .u64, zero := [.num .u64 0] } := rfl
theorem tab21 : tab 21 = { size := 1, bytes := 4, ik := some .i32, zero := [.num .i32 0] } := rfl
theorem tab22 : tab 22 = { size := 1, bytes := 24, elem := 5, zero := [.nils] } := rfl
theorem tab23 : tab 23 = { size := 1, bytes := 24, elem := 30, zero := [.nils] } := rfl
theorem tab24 : tab 24 = { size := 1, bytes := 24, elem := 32, zero := [.nils] } := rfl
theorem tab29 : tab 29 = { size := 2, bytes := 16, offs := [(0, 1), (1, 1)], zero := [.num .i64 0, .num .i64 0], eqb := true } := rfl
theorem tab30 : tab 30 = { size := 2, bytes := 16, offs := [(0, 1), (1, 1)], zero := [.num .i64 0, .num .i64 0], eqb := true } := rfl
theorem tab31 : tab 31 = { size := 3, bytes := 24, offs := [(0, 1), (1, 1), (2, 1)], zero := [.num .i64 0, .num .i64 0, .num .i64 0], eqb := true } := rfl
theorem tab32 : tab 32 = { size := 3, bytes := 24, offs := [(0, 1), (1, 1), (2, 1)], zero := [.num .i64 0, .num .i64 0, .num .i64 0], eqb := true } := rfl
theorem tab41 : tab 41 = { size := 1, bytes := 24, elem := 60, zero := [.nils] } := rfl
theorem tab50 : tab 50 = { size := 1, bytes := 8, zero := [.nilp] } := rfl
theorem tab60 : tab 60 = { size := 2, bytes := 16, offs := [(0, 1), (1, 1)], zero := [.num .i64 0, .num .i64 0], eqb := true } := rfl
theorem tab63 : tab 63 = { size := 2, bytes := 32, offs := [(0, 1), (1, 1)], zero := [.nils, .num .i64 0] } := rfl
theorem tab64 : tab 64 = { size := 2, bytes := 32, offs := [(0, 1), (1, 1)], zero := [.nils, .num .i64 0] } := rfl
theorem tab74 : tab 74 = { size := 1, bytes := 24, elem := 3, zero := [.nils] } := rfl
theorem tab75 : tab 75 = { size := 1, bytes := 24, elem := 4, zero := [.nils] } := rfl
theorem tab77 : tab 77 = { size := 3, bytes := 24, zero := [.num .i64 0, .num .i64 0, .num .i64 0], alen := 3, aelem := 3, aoffs := [(0, 1), (1, 1), (2, 1)] } := rfl
theorem tab81 : tab 81 = { size := 1, bytes := 24, elem := 84, zero := [.nils] } := rfl
theorem tab83 : tab 83 = { size := 4, bytes := 32, offs := [(0, 2), (2, 2)], zero := [.num .i64 0, .num .i64 0, .num .i64 0, .num .i64 0], eqb := true } := rfl
theorem tab84 : tab 84 = { size := 4, bytes := 32, offs := [(0, 2), (2, 2)], zero := [.num .i64 0, .num .i64 0, .num .i64 0, .num .i64 0], eqb := true } := rfl
theorem tab92 : tab 92 = { size := 1, bytes := 8, ik := some .u64, zero := [.num .u64 0] } := rfl
theorem tab94 : tab 94 = { size := 1, bytes := 24, elem := 23, zero := [.nils] } := rfl
theorem tab97 : tab 97 = { size := 1, bytes := 8, ik := some .i64, zero := [.num .i64 0] } := rfl
theorem tab105 : tab 105 = { size := 1, bytes := 4, ik := some .u32, zero := [.num .u32 0] } := rfl
theorem tab107 : tab 107 = { size := 1, bytes := 8, ik := some .u64, zero := [.num .u64 0] } := rfl
theorem tab108 : tab 108 = { size := 1, bytes := 8, ik := some .u64, zero := [.num .u64 0] } := rfl
theorem tab112 : tab 112 = { size := 1, bytes := 8, zero := [.nilp] } := rfl
theorem tab114 : tab 114 = { size := 1, bytes := 8, zero := [.nilp] } := rfl
theorem tab127 : tab 127 = { size := 1, bytes := 8, zero := [.nilp] } := rfl

theorem inf2 : (Try.prog.info? 2).map (fun i => (i.size, i.bytes, i.zero)) = some (1, 8, some (.int .i64 0)) := by kernel_rfl
theorem inf3 : (Try.prog.info? 3).map (fun i => (i.size, i.bytes, i.zero)) = some (1, 8, some (.int .i64 0)) := by kernel_rfl
theorem inf4 : (Try.prog.info? 4).map (fun i => (i.size, i.bytes, i.zero)) = some (1, 1, some (.bool false)) := by kernel_rfl
theorem inf5 : (Try.prog.info? 5).map (fun i => (i.size, i.bytes, i.zero)) = some (1, 1, some (.int .u8 0)) := by kernel_rfl
theorem inf9 : (Try.prog.info? 9).map (fun i => (i.size, i.bytes, i.zero)) = some (1, 16, some (.string (ByteArray.mk #[]))) := by kernel_rfl
theorem inf12 : (Try.prog.info? 12).map (fun i => (i.size, i.bytes, i.zero)) = some (1, 8, some (.int .u64 0)) := by kernel_rfl
theorem inf21 : (Try.prog.info? 21).map (fun i => (i.size, i.bytes, i.zero)) = some (1, 4, some (.int .i32 0)) := by kernel_rfl
theorem inf22 : (Try.prog.info? 22).map (fun i => (i.size, i.bytes, i.zero)) = some (1, 24, some (.slice none 0 0)) := by kernel_rfl
theorem inf23 : (Try.prog.info? 23).map (fun i => (i.size, i.bytes, i.zero)) = some (1, 24, some (.slice none 0 0)) := by kernel_rfl
theorem inf24 : (Try.prog.info? 24).map (fun i => (i.size, i.bytes, i.zero)) = some (1, 24, some (.slice none 0 0)) := by kernel_rfl
theorem inf29 : (Try.prog.info? 29).map (fun i => (i.size, i.bytes, i.zero)) = some (2, 16, some (.agg #[.int .i64 0, .int .i64 0])) := by kernel_rfl
theorem inf30 : (Try.prog.info? 30).map (fun i => (i.size, i.bytes, i.zero)) = some (2, 16, some (.agg #[.int .i64 0, .int .i64 0])) := by kernel_rfl
theorem inf31 : (Try.prog.info? 31).map (fun i => (i.size, i.bytes, i.zero)) = some (3, 24, some (.agg #[.int .i64 0, .int .i64 0, .int .i64 0])) := by kernel_rfl
theorem inf32 : (Try.prog.info? 32).map (fun i => (i.size, i.bytes, i.zero)) = some (3, 24, some (.agg #[.int .i64 0, .int .i64 0, .int .i64 0])) := by kernel_rfl
theorem inf41 : (Try.prog.info? 41).map (fun i => (i.size, i.bytes, i.zero)) = some (1, 24, some (.slice none 0 0)) := by kernel_rfl
theorem inf50 : (Try.prog.info? 50).map (fun i => (i.size, i.bytes, i.zero)) = some (1, 8, some (.pointer none)) := by kernel_rfl
theorem inf60 : (Try.prog.info? 60).map (fun i => (i.size, i.bytes, i.zero)) = some (2, 16, some (.agg #[.int .i64 0, .int .i64 0])) := by kernel_rfl
theorem inf63 : (Try.prog.info? 63).map (fun i => (i.size, i.bytes, i.zero)) = some (2, 32, some (.agg #[.slice none 0 0, .int .i64 0])) := by kernel_rfl
theorem inf64 : (Try.prog.info? 64).map (fun i => (i.size, i.bytes, i.zero)) = some (2, 32, some (.agg #[.slice none 0 0, .int .i64 0])) := by kernel_rfl
theorem inf74 : (Try.prog.info? 74).map (fun i => (i.size, i.bytes, i.zero)) = some (1, 24, some (.slice none 0 0)) := by kernel_rfl
theorem inf75 : (Try.prog.info? 75).map (fun i => (i.size, i.bytes, i.zero)) = some (1, 24, some (.slice none 0 0)) := by kernel_rfl
theorem inf77 : (Try.prog.info? 77).map (fun i => (i.size, i.bytes, i.zero)) = some (3, 24, some (.agg #[.int .i64 0, .int .i64 0, .int .i64 0])) := by kernel_rfl
theorem inf81 : (Try.prog.info? 81).map (fun i => (i.size, i.bytes, i.zero)) = some (1, 24, some (.slice none 0 0)) := by kernel_rfl
theorem inf83 : (Try.prog.info? 83).map (fun i => (i.size, i.bytes, i.zero)) = some (4, 32, some (.agg #[.int .i64 0, .int .i64 0, .int .i64 0, .int .i64 0])) := by kernel_rfl
theorem inf84 : (Try.prog.info? 84).map (fun i => (i.size, i.bytes, i.zero)) = some (4, 32, some (.agg #[.int .i64 0, .int .i64 0, .int .i64 0, .int .i64 0])) := by kernel_rfl
theorem inf92 : (Try.prog.info? 92).map (fun i => (i.size, i.bytes, i.zero)) = some (1, 8, some (.int .u64 0)) := by kernel_rfl
theorem inf94 : (Try.prog.info? 94).map (fun i => (i.size, i.bytes, i.zero)) = some (1, 24, some (.slice none 0 0)) := by kernel_rfl
theorem inf97 : (Try.prog.info? 97).map (fun i => (i.size, i.bytes, i.zero)) = some (1, 8, some (.int .i64 0)) := by kernel_rfl
theorem inf105 : (Try.prog.info? 105).map (fun i => (i.size, i.bytes, i.zero)) = some (1, 4, some (.int .u32 0)) := by kernel_rfl
theorem inf107 : (Try.prog.info? 107).map (fun i => (i.size, i.bytes, i.zero)) = some (1, 8, some (.int .u64 0)) := by kernel_rfl
theorem inf108 : (Try.prog.info? 108).map (fun i => (i.size, i.bytes, i.zero)) = some (1, 8, some (.int .u64 0)) := by kernel_rfl
theorem inf112 : (Try.prog.info? 112).map (fun i => (i.size, i.bytes, i.zero)) = some (1, 8, some (.pointer none)) := by kernel_rfl
theorem inf114 : (Try.prog.info? 114).map (fun i => (i.size, i.bytes, i.zero)) = some (1, 8, some (.pointer none)) := by kernel_rfl
theorem inf127 : (Try.prog.info? 127).map (fun i => (i.size, i.bytes, i.zero)) = some (1, 8, some (.pointer none)) := by kernel_rfl
theorem ty2 : TyOK Try.prog 2 { size := 1, bytes := 8, ik := some .i64, zero := [.num .i64 0] } := by
  have hu := Try.underlying2
  refine tyOK_mk inf2 hu (by simp [EltOk, Value.cells, Value.oneCell', isAggV]) (fun c => by simp [Value.cells, RepL, RepV]) (by intro w; simp [isAgg, run_underlying hu]) (by intro h; exact absurd rfl h) (by intro i x s h; simp at h) (by intro h; exact absurd rfl h) (by intro k h; simp at h; subst h; exact hu) (by intro h; simp at h) (by intro h; simp at h) (by intro h; simp at h) (by intro h; exact absurd rfl h)
theorem ty3 : TyOK Try.prog 3 { size := 1, bytes := 8, ik := some .i64, zero := [.num .i64 0] } := by
  have hu := Try.underlying3
  refine tyOK_mk inf3 hu (by simp [EltOk, Value.cells, Value.oneCell', isAggV]) (fun c => by simp [Value.cells, RepL, RepV]) (by intro w; simp [isAgg, run_underlying hu]) (by intro h; exact absurd rfl h) (by intro i x s h; simp at h) (by intro h; exact absurd rfl h) (by intro k h; simp at h; subst h; exact hu) (by intro h; simp at h) (by intro h; simp at h) (by intro h; simp at h) (by intro h; exact absurd rfl h)
theorem ty4 : TyOK Try.prog 4 { size := 1, bytes := 1, bl := true, zero := [.bool false] } := by
  have hu := Try.underlying4
  refine tyOK_mk inf4 hu (by simp [EltOk, Value.cells, Value.oneCell', isAggV]) (fun c => by simp [Value.cells, RepL, RepV]) (by intro w; simp [isAgg, run_underlying hu]) (by intro h; exact absurd rfl h) (by intro i x s h; simp at h) (by intro h; exact absurd rfl h) (by intro k h; simp at h) (by intro h; exact hu) (by intro h; simp at h) (by intro h; simp at h) (by intro h; exact absurd rfl h)
theorem ty5 : TyOK Try.prog 5 { size := 1, bytes := 1, ik := some .u8, zero := [.num .u8 0] } := by
  have hu := Try.underlying5
  refine tyOK_mk inf5 hu (by simp [EltOk, Value.cells, Value.oneCell', isAggV]) (fun c => by simp [Value.cells, RepL, RepV]) (by intro w; simp [isAgg, run_underlying hu]) (by intro h; exact absurd rfl h) (by intro i x s h; simp at h) (by intro h; exact absurd rfl h) (by intro k h; simp at h; subst h; exact hu) (by intro h; simp at h) (by intro h; simp at h) (by intro h; simp at h) (by intro h; exact absurd rfl h)
theorem ty9 : TyOK Try.prog 9 { size := 1, bytes := 16, st := true, zero := [.str (ByteArray.mk #[])] } := by
  have hu := Try.underlying9
  refine tyOK_mk inf9 hu (by simp [EltOk, Value.cells, Value.oneCell', isAggV]) (fun c => by simp [Value.cells, RepL, RepV]) (by intro w; simp [isAgg, run_underlying hu]) (by intro h; exact absurd rfl h) (by intro i x s h; simp at h) (by intro h; exact absurd rfl h) (by intro k h; simp at h) (by intro h; simp at h) (by intro h; exact hu) (by intro h; simp at h) (by intro h; exact absurd rfl h)
theorem ty12 : TyOK Try.prog 12 { size := 1, bytes := 8, ik := some .u64, zero := [.num .u64 0] } := by
  have hu := Try.underlying12
  refine tyOK_mk inf12 hu (by simp [EltOk, Value.cells, Value.oneCell', isAggV]) (fun c => by simp [Value.cells, RepL, RepV]) (by intro w; simp [isAgg, run_underlying hu]) (by intro h; exact absurd rfl h) (by intro i x s h; simp at h) (by intro h; exact absurd rfl h) (by intro k h; simp at h; subst h; exact hu) (by intro h; simp at h) (by intro h; simp at h) (by intro h; simp at h) (by intro h; exact absurd rfl h)
theorem ty21 : TyOK Try.prog 21 { size := 1, bytes := 4, ik := some .i32, zero := [.num .i32 0] } := by
  have hu := Try.underlying21
  refine tyOK_mk inf21 hu (by simp [EltOk, Value.cells, Value.oneCell', isAggV]) (fun c => by simp [Value.cells, RepL, RepV]) (by intro w; simp [isAgg, run_underlying hu]) (by intro h; exact absurd rfl h) (by intro i x s h; simp at h) (by intro h; exact absurd rfl h) (by intro k h; simp at h; subst h; exact hu) (by intro h; simp at h) (by intro h; simp at h) (by intro h; simp at h) (by intro h; exact absurd rfl h)
theorem ty22 : TyOK Try.prog 22 { size := 1, bytes := 24, elem := 5, zero := [.nils] } := by
  have hu := Try.underlying22
  refine tyOK_mk inf22 hu (by simp [EltOk, Value.cells, Value.oneCell', isAggV]) (fun c => by simp [Value.cells, RepL, RepV]) (by intro w; simp [isAgg, run_underlying hu]) (by intro h; exact hu) (by intro i x s h; simp at h) (by intro h; exact absurd rfl h) (by intro k h; simp at h) (by intro h; simp at h) (by intro h; simp at h) (by intro h; simp at h) (by intro h; exact absurd rfl h)
theorem ty23 : TyOK Try.prog 23 { size := 1, bytes := 24, elem := 30, zero := [.nils] } := by
  have hu := Try.underlying23
  refine tyOK_mk inf23 hu (by simp [EltOk, Value.cells, Value.oneCell', isAggV]) (fun c => by simp [Value.cells, RepL, RepV]) (by intro w; simp [isAgg, run_underlying hu]) (by intro h; exact hu) (by intro i x s h; simp at h) (by intro h; exact absurd rfl h) (by intro k h; simp at h) (by intro h; simp at h) (by intro h; simp at h) (by intro h; simp at h) (by intro h; exact absurd rfl h)
theorem ty24 : TyOK Try.prog 24 { size := 1, bytes := 24, elem := 32, zero := [.nils] } := by
  have hu := Try.underlying24
  refine tyOK_mk inf24 hu (by simp [EltOk, Value.cells, Value.oneCell', isAggV]) (fun c => by simp [Value.cells, RepL, RepV]) (by intro w; simp [isAgg, run_underlying hu]) (by intro h; exact hu) (by intro i x s h; simp at h) (by intro h; exact absurd rfl h) (by intro k h; simp at h) (by intro h; simp at h) (by intro h; simp at h) (by intro h; simp at h) (by intro h; exact absurd rfl h)
theorem ty41 : TyOK Try.prog 41 { size := 1, bytes := 24, elem := 60, zero := [.nils] } := by
  have hu := Try.underlying41
  refine tyOK_mk inf41 hu (by simp [EltOk, Value.cells, Value.oneCell', isAggV]) (fun c => by simp [Value.cells, RepL, RepV]) (by intro w; simp [isAgg, run_underlying hu]) (by intro h; exact hu) (by intro i x s h; simp at h) (by intro h; exact absurd rfl h) (by intro k h; simp at h) (by intro h; simp at h) (by intro h; simp at h) (by intro h; simp at h) (by intro h; exact absurd rfl h)
theorem ty50 : TyOK Try.prog 50 { size := 1, bytes := 8, zero := [.nilp] } := by
  have hu := Try.underlying50
  refine tyOK_mk inf50 hu (by simp [EltOk, Value.cells, Value.oneCell', isAggV]) (fun c => by simp [Value.cells, RepL, RepV]) (by intro w; simp [isAgg, run_underlying hu]) (by intro h; exact absurd rfl h) (by intro i x s h; simp at h) (by intro h; exact absurd rfl h) (by intro k h; simp at h) (by intro h; simp at h) (by intro h; simp at h) (by intro h; simp at h) (by intro h; exact absurd rfl h)
theorem ty74 : TyOK Try.prog 74 { size := 1, bytes := 24, elem := 3, zero := [.nils] } := by
  have hu := Try.underlying74
  refine tyOK_mk inf74 hu (by simp [EltOk, Value.cells, Value.oneCell', isAggV]) (fun c => by simp [Value.cells, RepL, RepV]) (by intro w; simp [isAgg, run_underlying hu]) (by intro h; exact hu) (by intro i x s h; simp at h) (by intro h; exact absurd rfl h) (by intro k h; simp at h) (by intro h; simp at h) (by intro h; simp at h) (by intro h; simp at h) (by intro h; exact absurd rfl h)
theorem ty75 : TyOK Try.prog 75 { size := 1, bytes := 24, elem := 4, zero := [.nils] } := by
  have hu := Try.underlying75
  refine tyOK_mk inf75 hu (by simp [EltOk, Value.cells, Value.oneCell', isAggV]) (fun c => by simp [Value.cells, RepL, RepV]) (by intro w; simp [isAgg, run_underlying hu]) (by intro h; exact hu) (by intro i x s h; simp at h) (by intro h; exact absurd rfl h) (by intro k h; simp at h) (by intro h; simp at h) (by intro h; simp at h) (by intro h; simp at h) (by intro h; exact absurd rfl h)
theorem ty81 : TyOK Try.prog 81 { size := 1, bytes := 24, elem := 84, zero := [.nils] } := by
  have hu := Try.underlying81
  refine tyOK_mk inf81 hu (by simp [EltOk, Value.cells, Value.oneCell', isAggV]) (fun c => by simp [Value.cells, RepL, RepV]) (by intro w; simp [isAgg, run_underlying hu]) (by intro h; exact hu) (by intro i x s h; simp at h) (by intro h; exact absurd rfl h) (by intro k h; simp at h) (by intro h; simp at h) (by intro h; simp at h) (by intro h; simp at h) (by intro h; exact absurd rfl h)
theorem ty92 : TyOK Try.prog 92 { size := 1, bytes := 8, ik := some .u64, zero := [.num .u64 0] } := by
  have hu := Try.underlying92
  refine tyOK_mk inf92 hu (by simp [EltOk, Value.cells, Value.oneCell', isAggV]) (fun c => by simp [Value.cells, RepL, RepV]) (by intro w; simp [isAgg, run_underlying hu]) (by intro h; exact absurd rfl h) (by intro i x s h; simp at h) (by intro h; exact absurd rfl h) (by intro k h; simp at h; subst h; exact hu) (by intro h; simp at h) (by intro h; simp at h) (by intro h; simp at h) (by intro h; exact absurd rfl h)
theorem ty94 : TyOK Try.prog 94 { size := 1, bytes := 24, elem := 23, zero := [.nils] } := by
  have hu := Try.underlying94
  refine tyOK_mk inf94 hu (by simp [EltOk, Value.cells, Value.oneCell', isAggV]) (fun c => by simp [Value.cells, RepL, RepV]) (by intro w; simp [isAgg, run_underlying hu]) (by intro h; exact hu) (by intro i x s h; simp at h) (by intro h; exact absurd rfl h) (by intro k h; simp at h) (by intro h; simp at h) (by intro h; simp at h) (by intro h; simp at h) (by intro h; exact absurd rfl h)
theorem ty97 : TyOK Try.prog 97 { size := 1, bytes := 8, ik := some .i64, zero := [.num .i64 0] } := by
  have hu := Try.underlying97
  refine tyOK_mk inf97 hu (by simp [EltOk, Value.cells, Value.oneCell', isAggV]) (fun c => by simp [Value.cells, RepL, RepV]) (by intro w; simp [isAgg, run_underlying hu]) (by intro h; exact absurd rfl h) (by intro i x s h; simp at h) (by intro h; exact absurd rfl h) (by intro k h; simp at h; subst h; exact hu) (by intro h; simp at h) (by intro h; simp at h) (by intro h; simp at h) (by intro h; exact absurd rfl h)
theorem ty105 : TyOK Try.prog 105 { size := 1, bytes := 4, ik := some .u32, zero := [.num .u32 0] } := by
  have hu := Try.underlying105
  refine tyOK_mk inf105 hu (by simp [EltOk, Value.cells, Value.oneCell', isAggV]) (fun c => by simp [Value.cells, RepL, RepV]) (by intro w; simp [isAgg, run_underlying hu]) (by intro h; exact absurd rfl h) (by intro i x s h; simp at h) (by intro h; exact absurd rfl h) (by intro k h; simp at h; subst h; exact hu) (by intro h; simp at h) (by intro h; simp at h) (by intro h; simp at h) (by intro h; exact absurd rfl h)
theorem ty107 : TyOK Try.prog 107 { size := 1, bytes := 8, ik := some .u64, zero := [.num .u64 0] } := by
  have hu := Try.underlying107
  refine tyOK_mk inf107 hu (by simp [EltOk, Value.cells, Value.oneCell', isAggV]) (fun c => by simp [Value.cells, RepL, RepV]) (by intro w; simp [isAgg, run_underlying hu]) (by intro h; exact absurd rfl h) (by intro i x s h; simp at h) (by intro h; exact absurd rfl h) (by intro k h; simp at h; subst h; exact hu) (by intro h; simp at h) (by intro h; simp at h) (by intro h; simp at h) (by intro h; exact absurd rfl h)
theorem ty108 : TyOK Try.prog 108 { size := 1, bytes := 8, ik := some .u64, zero := [.num .u64 0] } := by
  have hu := Try.underlying108
  refine tyOK_mk inf108 hu (by simp [EltOk, Value.cells, Value.oneCell', isAggV]) (fun c => by simp [Value.cells, RepL, RepV]) (by intro w; simp [isAgg, run_underlying hu]) (by intro h; exact absurd rfl h) (by intro i x s h; simp at h) (by intro h; exact absurd rfl h) (by intro k h; simp at h; subst h; exact hu) (by intro h; simp at h) (by intro h; simp at h) (by intro h; simp at h) (by intro h; exact absurd rfl h)
theorem ty112 : TyOK Try.prog 112 { size := 1, bytes := 8, zero := [.nilp] } := by
  have hu := Try.underlying112
  refine tyOK_mk inf112 hu (by simp [EltOk, Value.cells, Value.oneCell', isAggV]) (fun c => by simp [Value.cells, RepL, RepV]) (by intro w; simp [isAgg, run_underlying hu]) (by intro h; exact absurd rfl h) (by intro i x s h; simp at h) (by intro h; exact absurd rfl h) (by intro k h; simp at h) (by intro h; simp at h) (by intro h; simp at h) (by intro h; simp at h) (by intro h; exact absurd rfl h)
theorem ty114 : TyOK Try.prog 114 { size := 1, bytes := 8, zero := [.nilp] } := by
  have hu := Try.underlying114
  refine tyOK_mk inf114 hu (by simp [EltOk, Value.cells, Value.oneCell', isAggV]) (fun c => by simp [Value.cells, RepL, RepV]) (by intro w; simp [isAgg, run_underlying hu]) (by intro h; exact absurd rfl h) (by intro i x s h; simp at h) (by intro h; exact absurd rfl h) (by intro k h; simp at h) (by intro h; simp at h) (by intro h; simp at h) (by intro h; simp at h) (by intro h; exact absurd rfl h)
theorem ty127 : TyOK Try.prog 127 { size := 1, bytes := 8, zero := [.nilp] } := by
  have hu := Try.underlying127
  refine tyOK_mk inf127 hu (by simp [EltOk, Value.cells, Value.oneCell', isAggV]) (fun c => by simp [Value.cells, RepL, RepV]) (by intro w; simp [isAgg, run_underlying hu]) (by intro h; exact absurd rfl h) (by intro i x s h; simp at h) (by intro h; exact absurd rfl h) (by intro k h; simp at h) (by intro h; simp at h) (by intro h; simp at h) (by intro h; simp at h) (by intro h; exact absurd rfl h)
theorem ty29 : TyOK Try.prog 29 { size := 2, bytes := 16, offs := [(0, 1), (1, 1)], zero := [.num .i64 0, .num .i64 0], eqb := true } := by
  have hu := Try.underlying29
  refine tyOK_mk inf29 hu (by simp [EltOk, Value.cells, Value.oneCell', isAggV]) (fun c => by simp [Value.cells, RepL, RepV]) (by intro w; simp [isAgg, run_underlying hu]) (by intro h; exact absurd rfl h) (by
    intro i x s h
    match i, h with
    | 0, h => simp at h; obtain ⟨rfl, rfl⟩ := h; exact ⟨_, _, hu, rfl, rfl, by decide, ty3.size, ty3.agg, rfl⟩
    | 1, h => simp at h; obtain ⟨rfl, rfl⟩ := h; exact ⟨_, _, hu, rfl, rfl, by decide, ty3.size, ty3.agg, rfl⟩
    | n + 2, h => simp at h) (by intro _; exact ⟨_, hu, fun w => by simp [ty3.size]⟩) (by intro k h; simp at h) (by intro h; simp at h) (by intro h; simp at h) (fun _ => eqg_flat (by kernel_rfl) (by kernel_rfl) hu 2 (key2 ⟨by decide, Try.underlying3⟩ ⟨by decide, Try.underlying3⟩ rfl rfl)) (by intro h; exact absurd rfl h)
theorem ty30 : TyOK Try.prog 30 { size := 2, bytes := 16, offs := [(0, 1), (1, 1)], zero := [.num .i64 0, .num .i64 0], eqb := true } := by
  have hu := Try.underlying30
  refine tyOK_mk inf30 hu (by simp [EltOk, Value.cells, Value.oneCell', isAggV]) (fun c => by simp [Value.cells, RepL, RepV]) (by intro w; simp [isAgg, run_underlying hu]) (by intro h; exact absurd rfl h) (by
    intro i x s h
    match i, h with
    | 0, h => simp at h; obtain ⟨rfl, rfl⟩ := h; exact ⟨_, _, hu, rfl, rfl, by decide, ty3.size, ty3.agg, rfl⟩
    | 1, h => simp at h; obtain ⟨rfl, rfl⟩ := h; exact ⟨_, _, hu, rfl, rfl, by decide, ty3.size, ty3.agg, rfl⟩
    | n + 2, h => simp at h) (by intro _; exact ⟨_, hu, fun w => by simp [ty3.size]⟩) (by intro k h; simp at h) (by intro h; simp at h) (by intro h; simp at h) (fun _ => eqg_flat (by kernel_rfl) (by kernel_rfl) hu 2 (key2 ⟨by decide, Try.underlying3⟩ ⟨by decide, Try.underlying3⟩ rfl rfl)) (by intro h; exact absurd rfl h)
theorem ty60 : TyOK Try.prog 60 { size := 2, bytes := 16, offs := [(0, 1), (1, 1)], zero := [.num .i64 0, .num .i64 0], eqb := true } := by
  have hu := Try.underlying60
  refine tyOK_mk inf60 hu (by simp [EltOk, Value.cells, Value.oneCell', isAggV]) (fun c => by simp [Value.cells, RepL, RepV]) (by intro w; simp [isAgg, run_underlying hu]) (by intro h; exact absurd rfl h) (by
    intro i x s h
    match i, h with
    | 0, h => simp at h; obtain ⟨rfl, rfl⟩ := h; exact ⟨_, _, hu, rfl, rfl, by decide, ty3.size, ty3.agg, rfl⟩
    | 1, h => simp at h; obtain ⟨rfl, rfl⟩ := h; exact ⟨_, _, hu, rfl, rfl, by decide, ty3.size, ty3.agg, rfl⟩
    | n + 2, h => simp at h) (by intro _; exact ⟨_, hu, fun w => by simp [ty3.size]⟩) (by intro k h; simp at h) (by intro h; simp at h) (by intro h; simp at h) (fun _ => eqg_flat (by kernel_rfl) (by kernel_rfl) hu 2 (key2 ⟨by decide, Try.underlying3⟩ ⟨by decide, Try.underlying3⟩ rfl rfl)) (by intro h; exact absurd rfl h)
theorem ty63 : TyOK Try.prog 63 { size := 2, bytes := 32, offs := [(0, 1), (1, 1)], zero := [.nils, .num .i64 0] } := by
  have hu := Try.underlying63
  refine tyOK_mk inf63 hu (by simp [EltOk, Value.cells, Value.oneCell', isAggV]) (fun c => by simp [Value.cells, RepL, RepV]) (by intro w; simp [isAgg, run_underlying hu]) (by intro h; exact absurd rfl h) (by
    intro i x s h
    match i, h with
    | 0, h => simp at h; obtain ⟨rfl, rfl⟩ := h; exact ⟨_, _, hu, rfl, rfl, by decide, ty22.size, ty22.agg, rfl⟩
    | 1, h => simp at h; obtain ⟨rfl, rfl⟩ := h; exact ⟨_, _, hu, rfl, rfl, by decide, ty3.size, ty3.agg, rfl⟩
    | n + 2, h => simp at h) (by intro _; exact ⟨_, hu, fun w => by simp [ty3.size, ty22.size]⟩) (by intro k h; simp at h) (by intro h; simp at h) (by intro h; simp at h) (by intro h; simp at h) (by intro h; exact absurd rfl h)
theorem ty64 : TyOK Try.prog 64 { size := 2, bytes := 32, offs := [(0, 1), (1, 1)], zero := [.nils, .num .i64 0] } := by
  have hu := Try.underlying64
  refine tyOK_mk inf64 hu (by simp [EltOk, Value.cells, Value.oneCell', isAggV]) (fun c => by simp [Value.cells, RepL, RepV]) (by intro w; simp [isAgg, run_underlying hu]) (by intro h; exact absurd rfl h) (by
    intro i x s h
    match i, h with
    | 0, h => simp at h; obtain ⟨rfl, rfl⟩ := h; exact ⟨_, _, hu, rfl, rfl, by decide, ty22.size, ty22.agg, rfl⟩
    | 1, h => simp at h; obtain ⟨rfl, rfl⟩ := h; exact ⟨_, _, hu, rfl, rfl, by decide, ty3.size, ty3.agg, rfl⟩
    | n + 2, h => simp at h) (by intro _; exact ⟨_, hu, fun w => by simp [ty3.size, ty22.size]⟩) (by intro k h; simp at h) (by intro h; simp at h) (by intro h; simp at h) (by intro h; simp at h) (by intro h; exact absurd rfl h)
theorem ty31 : TyOK Try.prog 31 { size := 3, bytes := 24, offs := [(0, 1), (1, 1), (2, 1)], zero := [.num .i64 0, .num .i64 0, .num .i64 0], eqb := true } := by
  have hu := Try.underlying31
  refine tyOK_mk inf31 hu (by simp [EltOk, Value.cells, Value.oneCell', isAggV]) (fun c => by simp [Value.cells, RepL, RepV]) (by intro w; simp [isAgg, run_underlying hu]) (by intro h; exact absurd rfl h) (by
    intro i x s h
    match i, h with
    | 0, h => simp at h; obtain ⟨rfl, rfl⟩ := h; exact ⟨_, _, hu, rfl, rfl, by decide, ty3.size, ty3.agg, rfl⟩
    | 1, h => simp at h; obtain ⟨rfl, rfl⟩ := h; exact ⟨_, _, hu, rfl, rfl, by decide, ty3.size, ty3.agg, rfl⟩
    | 2, h => simp at h; obtain ⟨rfl, rfl⟩ := h; exact ⟨_, _, hu, rfl, rfl, by decide, ty3.size, ty3.agg, rfl⟩
    | n + 3, h => simp at h) (by intro _; exact ⟨_, hu, fun w => by simp [ty3.size]⟩) (by intro k h; simp at h) (by intro h; simp at h) (by intro h; simp at h) (fun _ => eqg_flat (by kernel_rfl) (by kernel_rfl) hu 3 (key3 ⟨by decide, Try.underlying3⟩ ⟨by decide, Try.underlying3⟩ ⟨by decide, Try.underlying3⟩ rfl rfl rfl)) (by intro h; exact absurd rfl h)
theorem ty32 : TyOK Try.prog 32 { size := 3, bytes := 24, offs := [(0, 1), (1, 1), (2, 1)], zero := [.num .i64 0, .num .i64 0, .num .i64 0], eqb := true } := by
  have hu := Try.underlying32
  refine tyOK_mk inf32 hu (by simp [EltOk, Value.cells, Value.oneCell', isAggV]) (fun c => by simp [Value.cells, RepL, RepV]) (by intro w; simp [isAgg, run_underlying hu]) (by intro h; exact absurd rfl h) (by
    intro i x s h
    match i, h with
    | 0, h => simp at h; obtain ⟨rfl, rfl⟩ := h; exact ⟨_, _, hu, rfl, rfl, by decide, ty3.size, ty3.agg, rfl⟩
    | 1, h => simp at h; obtain ⟨rfl, rfl⟩ := h; exact ⟨_, _, hu, rfl, rfl, by decide, ty3.size, ty3.agg, rfl⟩
    | 2, h => simp at h; obtain ⟨rfl, rfl⟩ := h; exact ⟨_, _, hu, rfl, rfl, by decide, ty3.size, ty3.agg, rfl⟩
    | n + 3, h => simp at h) (by intro _; exact ⟨_, hu, fun w => by simp [ty3.size]⟩) (by intro k h; simp at h) (by intro h; simp at h) (by intro h; simp at h) (fun _ => eqg_flat (by kernel_rfl) (by kernel_rfl) hu 3 (key3 ⟨by decide, Try.underlying3⟩ ⟨by decide, Try.underlying3⟩ ⟨by decide, Try.underlying3⟩ rfl rfl rfl)) (by intro h; exact absurd rfl h)
theorem ty77 : TyOK Try.prog 77 { size := 3, bytes := 24, zero := [.num .i64 0, .num .i64 0, .num .i64 0], alen := 3, aelem := 3, aoffs := [(0, 1), (1, 1), (2, 1)] } := by
  have hu := Try.underlying77
  refine tyOK_mk inf77 hu (by simp [EltOk, Value.cells, Value.oneCell', isAggV]) (fun c => by simp [Value.cells, RepL, RepV]) (by intro w; simp [isAgg, run_underlying hu]) (by intro h; exact absurd rfl h) (by intro i x s h; simp at h) (by intro h; exact absurd rfl h) (by intro k h; simp at h) (by intro h; simp at h) (by intro h; simp at h) (by intro h; simp at h) (by intro _; exact ⟨hu, ty3.size, rfl⟩)
theorem ty83 : TyOK Try.prog 83 { size := 4, bytes := 32, offs := [(0, 2), (2, 2)], zero := [.num .i64 0, .num .i64 0, .num .i64 0, .num .i64 0], eqb := true } := by
  have hu := Try.underlying83
  refine tyOK_mk inf83 hu (by simp [EltOk, Value.cells, Value.oneCell', isAggV]) (fun c => by simp [Value.cells, RepL, RepV]) (by intro w; simp [isAgg, run_underlying hu]) (by intro h; exact absurd rfl h) (by
    intro i x s h
    match i, h with
    | 0, h => simp at h; obtain ⟨rfl, rfl⟩ := h; exact ⟨_, _, hu, rfl, rfl, by decide, ty30.size, ty30.agg, rfl⟩
    | 1, h => simp at h; obtain ⟨rfl, rfl⟩ := h; exact ⟨_, _, hu, rfl, rfl, by decide, ty30.size, ty30.agg, rfl⟩
    | n + 2, h => simp at h) (by intro _; exact ⟨_, hu, fun w => by simp [ty30.size]⟩) (by intro k h; simp at h) (by intro h; simp at h) (by intro h; simp at h) (fun _ => eqg_flat2 (by kernel_rfl) (by kernel_rfl) hu 4 (fun d => key22 (by decide) (by decide) (by kernel_rfl) (by kernel_rfl) Try.underlying30 Try.underlying30 ty30.size ty30.size ⟨by decide, Try.underlying3⟩ ⟨by decide, Try.underlying3⟩ rfl rfl rfl rfl d)) (by intro h; exact absurd rfl h)
theorem ty84 : TyOK Try.prog 84 { size := 4, bytes := 32, offs := [(0, 2), (2, 2)], zero := [.num .i64 0, .num .i64 0, .num .i64 0, .num .i64 0], eqb := true } := by
  have hu := Try.underlying84
  refine tyOK_mk inf84 hu (by simp [EltOk, Value.cells, Value.oneCell', isAggV]) (fun c => by simp [Value.cells, RepL, RepV]) (by intro w; simp [isAgg, run_underlying hu]) (by intro h; exact absurd rfl h) (by
    intro i x s h
    match i, h with
    | 0, h => simp at h; obtain ⟨rfl, rfl⟩ := h; exact ⟨_, _, hu, rfl, rfl, by decide, ty30.size, ty30.agg, rfl⟩
    | 1, h => simp at h; obtain ⟨rfl, rfl⟩ := h; exact ⟨_, _, hu, rfl, rfl, by decide, ty30.size, ty30.agg, rfl⟩
    | n + 2, h => simp at h) (by intro _; exact ⟨_, hu, fun w => by simp [ty30.size]⟩) (by intro k h; simp at h) (by intro h; simp at h) (by intro h; simp at h) (fun _ => eqg_flat2 (by kernel_rfl) (by kernel_rfl) hu 4 (fun d => key22 (by decide) (by decide) (by kernel_rfl) (by kernel_rfl) Try.underlying30 Try.underlying30 ty30.size ty30.size ⟨by decide, Try.underlying3⟩ ⟨by decide, Try.underlying3⟩ rfl rfl rfl rfl d)) (by intro h; exact absurd rfl h)

theorem tabOK : TOK Try.prog tab := by
  refine lkD_ok ?_
  unfold tabL
  refine fok_cons ty2 (fok_cons ty3 (fok_cons ty4 (fok_cons ty5 (fok_cons ty9 (fok_cons ty12 (fok_cons ty21 (fok_cons ty22 (fok_cons ty23 (fok_cons ty24 (fok_cons ty29 (fok_cons ty30 (fok_cons ty31 (fok_cons ty32 (fok_cons ty41 (fok_cons ty50 (fok_cons ty60 (fok_cons ty63 (fok_cons ty64 (fok_cons ty74 (fok_cons ty75 (fok_cons ty77 (fok_cons ty81 (fok_cons ty83 (fok_cons ty84 (fok_cons ty92 (fok_cons ty94 (fok_cons ty97 (fok_cons ty105 (fok_cons ty107 (fok_cons ty108 (fok_cons ty112 (fok_cons ty114 (fok_cons ty127 (fok_nil))))))))))))))))))))))))))))))))))

end Go.Proofs.Ytbbmeabfmjkldaa
