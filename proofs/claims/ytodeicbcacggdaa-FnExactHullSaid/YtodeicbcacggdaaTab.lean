/- The table of the types of this translation. Written by a program (gentab.py). -/
import Derived.Test.YtodeicbcacggdaaProg
import Derived.Test.YtodeicbcacggdaaCb
set_option linter.unusedVariables false
set_option linter.unusedSimpArgs false
set_option maxRecDepth 100000
namespace Go.Proofs.Ytodeicbcacggdaa
open Go Go.Ideal

def tabL : List (Nat × TD) := [(2, { size := 1, bytes := 8, ik := some .i64, zero := [.num .i64 0] }),
  (3, { size := 1, bytes := 8, ik := some .i64, zero := [.num .i64 0] }),
  (4, { size := 1, bytes := 1, bl := true, zero := [.bool false] }),
  (5, { size := 1, bytes := 1, ik := some .u8, zero := [.num .u8 0] }),
  (9, { size := 1, bytes := 16, st := true, zero := [.str (ByteArray.mk #[])] }),
  (12, { size := 1, bytes := 8, ik := some .u64, zero := [.num .u64 0] }),
  (21, { size := 1, bytes := 4, ik := some .i32, zero := [.num .i32 0] }),
  (22, { size := 1, bytes := 24, elem := 5, zero := [.nils] }),
  (23, { size := 1, bytes := 24, elem := 30, zero := [.nils] }),
  (25, { size := 1, bytes := 24, elem := 3, zero := [.nils] }),
  (29, { size := 2, bytes := 16, offs := [(0, 1), (1, 1)], zero := [.num .i64 0, .num .i64 0], eqb := true }),
  (30, { size := 2, bytes := 16, offs := [(0, 1), (1, 1)], zero := [.num .i64 0, .num .i64 0], eqb := true }),
  (32, { size := 1, bytes := 24, elem := 37, zero := [.nils] }),
  (36, { size := 4, bytes := 32, offs := [(0, 2), (2, 2)], zero := [.num .i64 0, .num .i64 0, .num .i64 0, .num .i64 0], eqb := true }),
  (37, { size := 4, bytes := 32, offs := [(0, 2), (2, 2)], zero := [.num .i64 0, .num .i64 0, .num .i64 0, .num .i64 0], eqb := true }),
  (39, { size := 1, bytes := 24, elem := 43, zero := [.nils] }),
  (42, { size := 2, bytes := 16, offs := [(0, 1), (1, 1)], zero := [.num .i64 0, .num .i64 0], eqb := true }),
  (43, { size := 2, bytes := 16, offs := [(0, 1), (1, 1)], zero := [.num .i64 0, .num .i64 0], eqb := true }),
  (48, { size := 1, bytes := 24, elem := 96, zero := [.nils] }),
  (54, { size := 1, bytes := 24, elem := 99, zero := [.nils] }),
  (68, { size := 1, bytes := 8, zero := [.nilp] }),
  (82, { size := 5, bytes := 40, offs := [(0, 4), (4, 1)], zero := [.num .i64 0, .num .i64 0, .num .i64 0, .num .i64 0, .num .i64 0] }),
  (83, { size := 5, bytes := 40, offs := [(0, 4), (4, 1)], zero := [.num .i64 0, .num .i64 0, .num .i64 0, .num .i64 0, .num .i64 0] }),
  (84, { size := 1, bytes := 24, elem := 83, zero := [.nils] }),
  (96, { size := 2, bytes := 16, offs := [(0, 1), (1, 1)], zero := [.num .i64 0, .num .i64 0], eqb := true }),
  (99, { size := 2, bytes := 16, offs := [(0, 1), (1, 1)], zero := [.num .i64 0, .num .i64 0], eqb := true }),
  (109, { size := 2, bytes := 32, offs := [(0, 1), (1, 1)], zero := [.nils, .num .i64 0] }),
  (110, { size := 2, bytes := 32, offs := [(0, 1), (1, 1)], zero := [.nils, .num .i64 0] }),
  (113, { size := 1, bytes := 8, ik := some .u64, zero := [.num .u64 0] }),
  (124, { size := 2, bytes := 16, offs := [(0, 1), (1, 1)], zero := [.num .i64 0, .num .i64 0], eqb := true }),
  (125, { size := 2, bytes := 16, offs := [(0, 1), (1, 1)], zero := [.num .i64 0, .num .i64 0], eqb := true }),
  (126, { size := 4, bytes := 32, offs := [(0, 2), (2, 2)], zero := [.num .i64 0, .num .i64 0, .num .i64 0, .num .i64 0], eqb := true }),
  (127, { size := 4, bytes := 32, offs := [(0, 2), (2, 2)], zero := [.num .i64 0, .num .i64 0, .num .i64 0, .num .i64 0], eqb := true }),
  (137, { size := 1, bytes := 24, elem := 140, zero := [.nils] }),
  (139, { size := 4, bytes := 32, offs := [(0, 2), (2, 2)], zero := [.num .i64 0, .num .i64 0, .num .i64 0, .num .i64 0], eqb := true }),
  (140, { size := 4, bytes := 32, offs := [(0, 2), (2, 2)], zero := [.num .i64 0, .num .i64 0, .num .i64 0, .num .i64 0], eqb := true }),
  (142, { size := 1, bytes := 8, ik := some .i64, zero := [.num .i64 0] }),
  (150, { size := 1, bytes := 4, ik := some .u32, zero := [.num .u32 0] }),
  (152, { size := 1, bytes := 8, ik := some .u64, zero := [.num .u64 0] }),
  (159, { size := 1, bytes := 24, elem := 23, zero := [.nils] }),
  (162, { size := 1, bytes := 8, ik := some .u64, zero := [.num .u64 0] }),
  (166, { size := 1, bytes := 8, zero := [.nilp] }),
  (178, { size := 1, bytes := 8, zero := [.nilp] }),
  (196, { size := 1, bytes := 8, zero := [.nilp] })]
def tab : Nat → TD := lkD tabL

theorem tab2 : tab 2 = { size := 1, bytes := 8, ik := some .i64, zero := [.num .i64 0] } := rfl
theorem tab3 : tab 3 = { size := 1, bytes := 8, ik := some .i64, zero := [.num .i64 0] } := rfl
theorem tab4 : tab 4 = { size := 1, bytes := 1, bl := true, zero := [.bool false] } := rfl
theorem tab5 : tab 5 = { size := 1, bytes := 1, ik := some .u8, zero := [.num .u8 0] } := rfl
theorem tab9 : tab 9 = { size := 1, bytes := 16, st := true, zero := [.str (ByteArray.mk #[])] } := rfl
theorem tab12 : tab 12 = { size := 1, bytes := 8, ik := some .u64, zero := [.num .u64 0] } := rfl
theorem tab21 : tab 21 = { size := 1, bytes := 4, ik := some .i32, zero := [.num .i32 0] } := rfl
theorem tab22 : tab 22 = { size := 1, bytes := 24, elem := 5, zero := [.nils] } := rfl
theorem tab23 : tab 23 = { size := 1, bytes := 24, elem := 30, zero := [.nils] } := rfl
theorem tab25 : tab 25 = { size := 1, bytes := 24, elem := 3, zero := [.nils] } := rfl
theorem tab29 : tab 29 = { size := 2, bytes := 16, offs := [(0, 1), (1, 1)], zero := [.num .i64 0, .num .i64 0], eqb := true } := rfl
theorem tab30 : tab 30 = { size := 2, bytes := 16, offs := [(0, 1), (1, 1)], zero := [.num .i64 0, .num .i64 0], eqb := true } := rfl
theorem tab32 : tab 32 = { size := 1, bytes := 24, elem := 37, zero := [.nils] } := rfl
theorem tab36 : tab 36 = { size := 4, bytes := 32, offs := [(0, 2), (2, 2)], zero := [.num .i64 0, .num .i64 0, .num .i64 0, .num .i64 0], eqb := true } := rfl
theorem tab37 : tab 37 = { size := 4, bytes := 32, offs := [(0, 2), (2, 2)], zero := [.num .i64 0, .num .i64 0, .num .i64 0, .num .i64 0], eqb := true } := rfl
theorem tab39 : tab 39 = { size := 1, bytes := 24, elem := 43, zero := [.nils] } := rfl
theorem tab42 : tab 42 = { size := 2, bytes := 16, offs := [(0, 1), (1, 1)], zero := [.num .i64 0, .num .i64 0], eqb := true } := rfl
theorem tab43 : tab 43 = { size := 2, bytes := 16, offs := [(0, 1), (1, 1)], zero := [.num .i64 0, .num .i64 0], eqb := true } := rfl
theorem tab48 : tab 48 = { size := 1, bytes := 24, elem := 96, zero := [.nils] } := rfl
theorem tab54 : tab 54 = { size := 1, bytes := 24, elem := 99, zero := [.nils] } := rfl
theorem tab68 : tab 68 = { size := 1, bytes := 8, zero := [.nilp] } := rfl
theorem tab82 : tab 82 = { size := 5, bytes := 40, offs := [(0, 4), (4, 1)], zero := [.num .i64 0, .num .i64 0, .num .i64 0, .num .i64 0, .num .i64 0] } := rfl
theorem tab83 : tab 83 = { size := 5, bytes := 40, offs := [(0, 4), (4, 1)], zero := [.num .i64 0, .num .i64 0, .num .i64 0, .num .i64 0, .num .i64 0] } := rfl
theorem tab84 : tab 84 = { size := 1, bytes := 24, elem := 83, zero := [.nils] } := rfl
theorem tab96 : tab 96 = { size := 2, bytes := 16, offs := [(0, 1), (1, 1)], zero := [.num .i64 0, .num .i64 0], eqb := true } := rfl
theorem tab99 : tab 99 = { size := 2, bytes := 16, offs := [(0, 1), (1, 1)], zero := [.num .i64 0, .num .i64 0], eqb := true } := rfl
theorem tab109 : tab 109 = { size := 2, bytes := 32, offs := [(0, 1), (1, 1)], zero := [.nils, .num .i64 0] } := rfl
theorem tab110 : tab 110 = { size := 2, bytes := 32, offs := [(0, 1), (1, 1)], zero := [.nils, .num .i64 0] } := rfl
theorem tab113 : tab 113 = { size := 1, bytes := 8, ik := some .u64, zero := [.num .u64 0] } := rfl
theorem tab124 : tab 124 = { size := 2, bytes := 16, offs := [(0, 1), (1, 1)], zero := [.num .i64 0, .num .i64 0], eqb := true } := rfl
theorem tab125 : tab 125 = { size := 2, bytes := 16, offs := [(0, 1), (1, 1)], zero := [.num .i64 0, .num .i64 0], eqb := true } := rfl
theorem tab126 : tab 126 = { size := 4, bytes := 32, offs := [(0, 2), (2, 2)], zero := [.num .i64 0, .num .i64 0, .num .i64 0, .num .i64 0], eqb := true } := rfl
theorem tab127 : tab 127 = { size := 4, bytes := 32, offs := [(0, 2), (2, 2)], zero := [.num .i64 0, .num .i64 0, .num .i64 0, .num .i64 0], eqb := true } := rfl
theorem tab137 : tab 137 = { size := 1, bytes := 24, elem := 140, zero := [.nils] } := rfl
theorem tab139 : tab 139 = { size := 4, bytes := 32, offs := [(0, 2), (2, 2)], zero := [.num .i64 0, .num .i64 0, .num .i64 0, .num .i64 0], eqb := true } := rfl
theorem tab140 : tab 140 = { size := 4, bytes := 32, offs := [(0, 2), (2, 2)], zero := [.num .i64 0, .num .i64 0, .num .i64 0, .num .i64 0], eqb := true } := rfl
theorem tab142 : tab 142 = { size := 1, bytes := 8, ik := some .i64, zero := [.num .i64 0] } := rfl
theorem tab150 : tab 150 = { size := 1, bytes := 4, ik := some .u32, zero := [.num .u32 0] } := rfl
theorem tab152 : tab 152 = { size := 1, bytes := 8, ik := some .u64, zero := [.num .u64 0] } := rfl
theorem tab159 : tab 159 = { size := 1, bytes := 24, elem := 23, zero := [.nils] } := rfl
theorem tab162 : tab 162 = { size := 1, bytes := 8, ik := some .u64, zero := [.num .u64 0] } := rfl
theorem tab166 : tab 166 = { size := 1, bytes := 8, zero := [.nilp] } := rfl
theorem tab178 : tab 178 = { size := 1, bytes := 8, zero := [.nilp] } := rfl
theorem tab196 : tab 196 = { size := 1, bytes := 8, zero := [.nilp] } := rfl

theorem inf2 : (Try.prog.info? 2).map (fun i => (i.size, i.bytes, i.zero)) = some (1, 8, some (.int .i64 0)) := by kernel_rfl
theorem inf3 : (Try.prog.info? 3).map (fun i => (i.size, i.bytes, i.zero)) = some (1, 8, some (.int .i64 0)) := by kernel_rfl
theorem inf4 : (Try.prog.info? 4).map (fun i => (i.size, i.bytes, i.zero)) = some (1, 1, some (.bool false)) := by kernel_rfl
theorem inf5 : (Try.prog.info? 5).map (fun i => (i.size, i.bytes, i.zero)) = some (1, 1, some (.int .u8 0)) := by kernel_rfl
theorem inf9 : (Try.prog.info? 9).map (fun i => (i.size, i.bytes, i.zero)) = some (1, 16, some (.string (ByteArray.mk #[]))) := by kernel_rfl
theorem inf12 : (Try.prog.info? 12).map (fun i => (i.size, i.bytes, i.zero)) = some (1, 8, some (.int .u64 0)) := by kernel_rfl
theorem inf21 : (Try.prog.info? 21).map (fun i => (i.size, i.bytes, i.zero)) = some (1, 4, some (.int .i32 0)) := by kernel_rfl
theorem inf22 : (Try.prog.info? 22).map (fun i => (i.size, i.bytes, i.zero)) = some (1, 24, some (.slice none 0 0)) := by kernel_rfl
theorem inf23 : (Try.prog.info? 23).map (fun i => (i.size, i.bytes, i.zero)) = some (1, 24, some (.slice none 0 0)) := by kernel_rfl
theorem inf25 : (Try.prog.info? 25).map (fun i => (i.size, i.bytes, i.zero)) = some (1, 24, some (.slice none 0 0)) := by kernel_rfl
theorem inf29 : (Try.prog.info? 29).map (fun i => (i.size, i.bytes, i.zero)) = some (2, 16, some (.agg #[.int .i64 0, .int .i64 0])) := by kernel_rfl
theorem inf30 : (Try.prog.info? 30).map (fun i => (i.size, i.bytes, i.zero)) = some (2, 16, some (.agg #[.int .i64 0, .int .i64 0])) := by kernel_rfl
theorem inf32 : (Try.prog.info? 32).map (fun i => (i.size, i.bytes, i.zero)) = some (1, 24, some (.slice none 0 0)) := by kernel_rfl
theorem inf36 : (Try.prog.info? 36).map (fun i => (i.size, i.bytes, i.zero)) = some (4, 32, some (.agg #[.int .i64 0, .int .i64 0, .int .i64 0, .int .i64 0])) := by kernel_rfl
theorem inf37 : (Try.prog.info? 37).map (fun i => (i.size, i.bytes, i.zero)) = some (4, 32, some (.agg #[.int .i64 0, .int .i64 0, .int .i64 0, .int .i64 0])) := by kernel_rfl
theorem inf39 : (Try.prog.info? 39).map (fun i => (i.size, i.bytes, i.zero)) = some (1, 24, some (.slice none 0 0)) := by kernel_rfl
theorem inf42 : (Try.prog.info? 42).map (fun i => (i.size, i.bytes, i.zero)) = some (2, 16, some (.agg #[.int .i64 0, .int .i64 0])) := by kernel_rfl
theorem inf43 : (Try.prog.info? 43).map (fun i => (i.size, i.bytes, i.zero)) = some (2, 16, some (.agg #[.int .i64 0, .int .i64 0])) := by kernel_rfl
theorem inf48 : (Try.prog.info? 48).map (fun i => (i.size, i.bytes, i.zero)) = some (1, 24, some (.slice none 0 0)) := by kernel_rfl
theorem inf54 : (Try.prog.info? 54).map (fun i => (i.size, i.bytes, i.zero)) = some (1, 24, some (.slice none 0 0)) := by kernel_rfl
theorem inf68 : (Try.prog.info? 68).map (fun i => (i.size, i.bytes, i.zero)) = some (1, 8, some (.pointer none)) := by kernel_rfl
theorem inf82 : (Try.prog.info? 82).map (fun i => (i.size, i.bytes, i.zero)) = some (5, 40, some (.agg #[.int .i64 0, .int .i64 0, .int .i64 0, .int .i64 0, .int .i64 0])) := by kernel_rfl
theorem inf83 : (Try.prog.info? 83).map (fun i => (i.size, i.bytes, i.zero)) = some (5, 40, some (.agg #[.int .i64 0, .int .i64 0, .int .i64 0, .int .i64 0, .int .i64 0])) := by kernel_rfl
theorem inf84 : (Try.prog.info? 84).map (fun i => (i.size, i.bytes, i.zero)) = some (1, 24, some (.slice none 0 0)) := by kernel_rfl
theorem inf96 : (Try.prog.info? 96).map (fun i => (i.size, i.bytes, i.zero)) = some (2, 16, some (.agg #[.int .i64 0, .int .i64 0])) := by kernel_rfl
theorem inf99 : (Try.prog.info? 99).map (fun i => (i.size, i.bytes, i.zero)) = some (2, 16, some (.agg #[.int .i64 0, .int .i64 0])) := by kernel_rfl
theorem inf109 : (Try.prog.info? 109).map (fun i => (i.size, i.bytes, i.zero)) = some (2, 32, some (.agg #[.slice none 0 0, .int .i64 0])) := by kernel_rfl
theorem inf110 : (Try.prog.info? 110).map (fun i => (i.size, i.bytes, i.zero)) = some (2, 32, some (.agg #[.slice none 0 0, .int .i64 0])) := by kernel_rfl
theorem inf113 : (Try.prog.info? 113).map (fun i => (i.size, i.bytes, i.zero)) = some (1, 8, some (.int .u64 0)) := by kernel_rfl
theorem inf124 : (Try.prog.info? 124).map (fun i => (i.size, i.bytes, i.zero)) = some (2, 16, some (.agg #[.int .i64 0, .int .i64 0])) := by kernel_rfl
theorem inf125 : (Try.prog.info? 125).map (fun i => (i.size, i.bytes, i.zero)) = some (2, 16, some (.agg #[.int .i64 0, .int .i64 0])) := by kernel_rfl
theorem inf126 : (Try.prog.info? 126).map (fun i => (i.size, i.bytes, i.zero)) = some (4, 32, some (.agg #[.int .i64 0, .int .i64 0, .int .i64 0, .int .i64 0])) := by kernel_rfl
theorem inf127 : (Try.prog.info? 127).map (fun i => (i.size, i.bytes, i.zero)) = some (4, 32, some (.agg #[.int .i64 0, .int .i64 0, .int .i64 0, .int .i64 0])) := by kernel_rfl
theorem inf137 : (Try.prog.info? 137).map (fun i => (i.size, i.bytes, i.zero)) = some (1, 24, some (.slice none 0 0)) := by kernel_rfl
theorem inf139 : (Try.prog.info? 139).map (fun i => (i.size, i.bytes, i.zero)) = some (4, 32, some (.agg #[.int .i64 0, .int .i64 0, .int .i64 0, .int .i64 0])) := by kernel_rfl
theorem inf140 : (Try.prog.info? 140).map (fun i => (i.size, i.bytes, i.zero)) = some (4, 32, some (.agg #[.int .i64 0, .int .i64 0, .int .i64 0, .int .i64 0])) := by kernel_rfl
theorem inf142 : (Try.prog.info? 142).map (fun i => (i.size, i.bytes, i.zero)) = some (1, 8, some (.int .i64 0)) := by kernel_rfl
theorem inf150 : (Try.prog.info? 150).map (fun i => (i.size, i.bytes, i.zero)) = some (1, 4, some (.int .u32 0)) := by kernel_rfl
theorem inf152 : (Try.prog.info? 152).map (fun i => (i.size, i.bytes, i.zero)) = some (1, 8, some (.int .u64 0)) := by kernel_rfl
theorem inf159 : (Try.prog.info? 159).map (fun i => (i.size, i.bytes, i.zero)) = some (1, 24, some (.slice none 0 0)) := by kernel_rfl
theorem inf162 : (Try.prog.info? 162).map (fun i => (i.size, i.bytes, i.zero)) = some (1, 8, some (.int .u64 0)) := by kernel_rfl
theorem inf166 : (Try.prog.info? 166).map (fun i => (i.size, i.bytes, i.zero)) = some (1, 8, some (.pointer none)) := by kernel_rfl
theorem inf178 : (Try.prog.info? 178).map (fun i => (i.size, i.bytes, i.zero)) = some (1, 8, some (.pointer none)) := by kernel_rfl
theorem inf196 : (Try.prog.info? 196).map (fun i => (i.size, i.bytes, i.zero)) = some (1, 8, some (.pointer none)) := by kernel_rfl
theorem ty2 : TyOK Try.prog 2 { size := 1, bytes := 8, ik := some .i64, zero := [.num .i64 0] } := by
  have hu := Try.underlying2
  refine tyOK_mk inf2 hu (by simp [EltOk, Value.cells, Value.oneCell', isAggV]) (fun c => by simp [Value.cells, RepL, RepV]) (by intro w; simp [isAgg, run_underlying hu]) (by intro h; exact absurd rfl h) (by intro i x s h; simp at h) (by intro h; exact absurd rfl h) (by intro k h; simp at h; subst h; exact hu) (by intro h; simp at h) (by intro h; simp at h) (by intro h; simp at h)
theorem ty3 : TyOK Try.prog 3 { size := 1, bytes := 8, ik := some .i64, zero := [.num .i64 0] } := by
  have hu := Try.underlying3
  refine tyOK_mk inf3 hu (by simp [EltOk, Value.cells, Value.oneCell', isAggV]) (fun c => by simp [Value.cells, RepL, RepV]) (by intro w; simp [isAgg, run_underlying hu]) (by intro h; exact absurd rfl h) (by intro i x s h; simp at h) (by intro h; exact absurd rfl h) (by intro k h; simp at h; subst h; exact hu) (by intro h; simp at h) (by intro h; simp at h) (by intro h; simp at h)
theorem ty4 : TyOK Try.prog 4 { size := 1, bytes := 1, bl := true, zero := [.bool false] } := by
  have hu := Try.underlying4
  refine tyOK_mk inf4 hu (by simp [EltOk, Value.cells, Value.oneCell', isAggV]) (fun c => by simp [Value.cells, RepL, RepV]) (by intro w; simp [isAgg, run_underlying hu]) (by intro h; exact absurd rfl h) (by intro i x s h; simp at h) (by intro h; exact absurd rfl h) (by intro k h; simp at h) (by intro h; exact hu) (by intro h; simp at h) (by intro h; simp at h)
theorem ty5 : TyOK Try.prog 5 { size := 1, bytes := 1, ik := some .u8, zero := [.num .u8 0] } := by
  have hu := Try.underlying5
  refine tyOK_mk inf5 hu (by simp [EltOk, Value.cells, Value.oneCell', isAggV]) (fun c => by simp [Value.cells, RepL, RepV]) (by intro w; simp [isAgg, run_underlying hu]) (by intro h; exact absurd rfl h) (by intro i x s h; simp at h) (by intro h; exact absurd rfl h) (by intro k h; simp at h; subst h; exact hu) (by intro h; simp at h) (by intro h; simp at h) (by intro h; simp at h)
theorem ty9 : TyOK Try.prog 9 { size := 1, bytes := 16, st := true, zero := [.str (ByteArray.mk #[])] } := by
  have hu := Try.underlying9
  refine tyOK_mk inf9 hu (by simp [EltOk, Value.cells, Value.oneCell', isAggV]) (fun c => by simp [Value.cells, RepL, RepV]) (by intro w; simp [isAgg, run_underlying hu]) (by intro h; exact absurd rfl h) (by intro i x s h; simp at h) (by intro h; exact absurd rfl h) (by intro k h; simp at h) (by intro h; simp at h) (by intro h; exact hu) (by intro h; simp at h)
theorem ty12 : TyOK Try.prog 12 { size := 1, bytes := 8, ik := some .u64, zero := [.num .u64 0] } := by
  have hu := Try.underlying12
  refine tyOK_mk inf12 hu (by simp [EltOk, Value.cells, Value.oneCell', isAggV]) (fun c => by simp [Value.cells, RepL, RepV]) (by intro w; simp [isAgg, run_underlying hu]) (by intro h; exact absurd rfl h) (by intro i x s h; simp at h) (by intro h; exact absurd rfl h) (by intro k h; simp at h; subst h; exact hu) (by intro h; simp at h) (by intro h; simp at h) (by intro h; simp at h)
theorem ty21 : TyOK Try.prog 21 { size := 1, bytes := 4, ik := some .i32, zero := [.num .i32 0] } := by
  have hu := Try.underlying21
  refine tyOK_mk inf21 hu (by simp [EltOk, Value.cells, Value.oneCell', isAggV]) (fun c => by simp [Value.cells, RepL, RepV]) (by intro w; simp [isAgg, run_underlying hu]) (by intro h; exact absurd rfl h) (by intro i x s h; simp at h) (by intro h; exact absurd rfl h) (by intro k h; simp at h; subst h; exact hu) (by intro h; simp at h) (by intro h; simp at h) (by intro h; simp at h)
theorem ty22 : TyOK Try.prog 22 { size := 1, bytes := 24, elem := 5, zero := [.nils] } := by
  have hu := Try.underlying22
  refine tyOK_mk inf22 hu (by simp [EltOk, Value.cells, Value.oneCell', isAggV]) (fun c => by simp [Value.cells, RepL, RepV]) (by intro w; simp [isAgg, run_underlying hu]) (by intro h; exact hu) (by intro i x s h; simp at h) (by intro h; exact absurd rfl h) (by intro k h; simp at h) (by intro h; simp at h) (by intro h; simp at h) (by intro h; simp at h)
theorem ty23 : TyOK Try.prog 23 { size := 1, bytes := 24, elem := 30, zero := [.nils] } := by
  have hu := Try.underlying23
  refine tyOK_mk inf23 hu (by simp [EltOk, Value.cells, Value.oneCell', isAggV]) (fun c => by simp [Value.cells, RepL, RepV]) (by intro w; simp [isAgg, run_underlying hu]) (by intro h; exact hu) (by intro i x s h; simp at h) (by intro h; exact absurd rfl h) (by intro k h; simp at h) (by intro h; simp at h) (by intro h; simp at h) (by intro h; simp at h)
theorem ty25 : TyOK Try.prog 25 { size := 1, bytes := 24, elem := 3, zero := [.nils] } := by
  have hu := Try.underlying25
  refine tyOK_mk inf25 hu (by simp [EltOk, Value.cells, Value.oneCell', isAggV]) (fun c => by simp [Value.cells, RepL, RepV]) (by intro w; simp [isAgg, run_underlying hu]) (by intro h; exact hu) (by intro i x s h; simp at h) (by intro h; exact absurd rfl h) (by intro k h; simp at h) (by intro h; simp at h) (by intro h; simp at h) (by intro h; simp at h)
theorem ty32 : TyOK Try.prog 32 { size := 1, bytes := 24, elem := 37, zero := [.nils] } := by
  have hu := Try.underlying32
  refine tyOK_mk inf32 hu (by simp [EltOk, Value.cells, Value.oneCell', isAggV]) (fun c => by simp [Value.cells, RepL, RepV]) (by intro w; simp [isAgg, run_underlying hu]) (by intro h; exact hu) (by intro i x s h; simp at h) (by intro h; exact absurd rfl h) (by intro k h; simp at h) (by intro h; simp at h) (by intro h; simp at h) (by intro h; simp at h)
theorem ty39 : TyOK Try.prog 39 { size := 1, bytes := 24, elem := 43, zero := [.nils] } := by
  have hu := Try.underlying39
  refine tyOK_mk inf39 hu (by simp [EltOk, Value.cells, Value.oneCell', isAggV]) (fun c => by simp [Value.cells, RepL, RepV]) (by intro w; simp [isAgg, run_underlying hu]) (by intro h; exact hu) (by intro i x s h; simp at h) (by intro h; exact absurd rfl h) (by intro k h; simp at h) (by intro h; simp at h) (by intro h; simp at h) (by intro h; simp at h)
theorem ty48 : TyOK Try.prog 48 { size := 1, bytes := 24, elem := 96, zero := [.nils] } := by
  have hu := Try.underlying48
  refine tyOK_mk inf48 hu (by simp [EltOk, Value.cells, Value.oneCell', isAggV]) (fun c => by simp [Value.cells, RepL, RepV]) (by intro w; simp [isAgg, run_underlying hu]) (by intro h; exact hu) (by intro i x s h; simp at h) (by intro h; exact absurd rfl h) (by intro k h; simp at h) (by intro h; simp at h) (by intro h; simp at h) (by intro h; simp at h)
theorem ty54 : TyOK Try.prog 54 { size := 1, bytes := 24, elem := 99, zero := [.nils] } := by
  have hu := Try.underlying54
  refine tyOK_mk inf54 hu (by simp [EltOk, Value.cells, Value.oneCell', isAggV]) (fun c => by simp [Value.cells, RepL, RepV]) (by intro w; simp [isAgg, run_underlying hu]) (by intro h; exact hu) (by intro i x s h; simp at h) (by intro h; exact absurd rfl h) (by intro k h; simp at h) (by intro h; simp at h) (by intro h; simp at h) (by intro h; simp at h)
theorem ty68 : TyOK Try.prog 68 { size := 1, bytes := 8, zero := [.nilp] } := by
  have hu := Try.underlying68
  refine tyOK_mk inf68 hu (by simp [EltOk, Value.cells, Value.oneCell', isAggV]) (fun c => by simp [Value.cells, RepL, RepV]) (by intro w; simp [isAgg, run_underlying hu]) (by intro h; exact absurd rfl h) (by intro i x s h; simp at h) (by intro h; exact absurd rfl h) (by intro k h; simp at h) (by intro h; simp at h) (by intro h; simp at h) (by intro h; simp at h)
theorem ty84 : TyOK Try.prog 84 { size := 1, bytes := 24, elem := 83, zero := [.nils] } := by
  have hu := Try.underlying84
  refine tyOK_mk inf84 hu (by simp [EltOk, Value.cells, Value.oneCell', isAggV]) (fun c => by simp [Value.cells, RepL, RepV]) (by intro w; simp [isAgg, run_underlying hu]) (by intro h; exact hu) (by intro i x s h; simp at h) (by intro h; exact absurd rfl h) (by intro k h; simp at h) (by intro h; simp at h) (by intro h; simp at h) (by intro h; simp at h)
theorem ty113 : TyOK Try.prog 113 { size := 1, bytes := 8, ik := some .u64, zero := [.num .u64 0] } := by
  have hu := Try.underlying113
  refine tyOK_mk inf113 hu (by simp [EltOk, Value.cells, Value.oneCell', isAggV]) (fun c => by simp [Value.cells, RepL, RepV]) (by intro w; simp [isAgg, run_underlying hu]) (by intro h; exact absurd rfl h) (by intro i x s h; simp at h) (by intro h; exact absurd rfl h) (by intro k h; simp at h; subst h; exact hu) (by intro h; simp at h) (by intro h; simp at h) (by intro h; simp at h)
theorem ty137 : TyOK Try.prog 137 { size := 1, bytes := 24, elem := 140, zero := [.nils] } := by
  have hu := Try.underlying137
  refine tyOK_mk inf137 hu (by simp [EltOk, Value.cells, Value.oneCell', isAggV]) (fun c => by simp [Value.cells, RepL, RepV]) (by intro w; simp [isAgg, run_underlying hu]) (by intro h; exact hu) (by intro i x s h; simp at h) (by intro h; exact absurd rfl h) (by intro k h; simp at h) (by intro h; simp at h) (by intro h; simp at h) (by intro h; simp at h)
theorem ty142 : TyOK Try.prog 142 { size := 1, bytes := 8, ik := some .i64, zero := [.num .i64 0] } := by
  have hu := Try.underlying142
  refine tyOK_mk inf142 hu (by simp [EltOk, Value.cells, Value.oneCell', isAggV]) (fun c => by simp [Value.cells, RepL, RepV]) (by intro w; simp [isAgg, run_underlying hu]) (by intro h; exact absurd rfl h) (by intro i x s h; simp at h) (by intro h; exact absurd rfl h) (by intro k h; simp at h; subst h; exact hu) (by intro h; simp at h) (by intro h; simp at h) (by intro h; simp at h)
theorem ty150 : TyOK Try.prog 150 { size := 1, bytes := 4, ik := some .u32, zero := [.num .u32 0] } := by
  have hu := Try.underlying150
  refine tyOK_mk inf150 hu (by simp [EltOk, Value.cells, Value.oneCell', isAggV]) (fun c => by simp [Value.cells, RepL, RepV]) (by intro w; simp [isAgg, run_underlying hu]) (by intro h; exact absurd rfl h) (by intro i x s h; simp at h) (by intro h; exact absurd rfl h) (by intro k h; simp at h; subst h; exact hu) (by intro h; simp at h) (by intro h; simp at h) (by intro h; simp at h)
theorem ty152 : TyOK Try.prog 152 { size := 1, bytes := 8, ik := some .u64, zero := [.num .u64 0] } := by
  have hu := Try.underlying152
  refine tyOK_mk inf152 hu (by simp [EltOk, Value.cells, Value.oneCell', isAggV]) (fun c => by simp [Value.cells, RepL, RepV]) (by intro w; simp [isAgg, run_underlying hu]) (by intro h; exact absurd rfl h) (by intro i x s h; simp at h) (by intro h; exact absurd rfl h) (by intro k h; simp at h; subst h; exact hu) (by intro h; simp at h) (by intro h; simp at h) (by intro h; simp at h)
theorem ty159 : TyOK Try.prog 159 { size := 1, bytes := 24, elem := 23, zero := [.nils] } := by
  have hu := Try.underlying159
  refine tyOK_mk inf159 hu (by simp [EltOk, Value.cells, Value.oneCell', isAggV]) (fun c => by simp [Value.cells, RepL, RepV]) (by intro w; simp [isAgg, run_underlying hu]) (by intro h; exact hu) (by intro i x s h; simp at h) (by intro h; exact absurd rfl h) (by intro k h; simp at h) (by intro h; simp at h) (by intro h; simp at h) (by intro h; simp at h)
theorem ty162 : TyOK Try.prog 162 { size := 1, bytes := 8, ik := some .u64, zero := [.num .u64 0] } := by
  have hu := Try.underlying162
  refine tyOK_mk inf162 hu (by simp [EltOk, Value.cells, Value.oneCell', isAggV]) (fun c => by simp [Value.cells, RepL, RepV]) (by intro w; simp [isAgg, run_underlying hu]) (by intro h; exact absurd rfl h) (by intro i x s h; simp at h) (by intro h; exact absurd rfl h) (by intro k h; simp at h; subst h; exact hu) (by intro h; simp at h) (by intro h; simp at h) (by intro h; simp at h)
theorem ty166 : TyOK Try.prog 166 { size := 1, bytes := 8, zero := [.nilp] } := by
  have hu := Try.underlying166
  refine tyOK_mk inf166 hu (by simp [EltOk, Value.cells, Value.oneCell', isAggV]) (fun c => by simp [Value.cells, RepL, RepV]) (by intro w; simp [isAgg, run_underlying hu]) (by intro h; exact absurd rfl h) (by intro i x s h; simp at h) (by intro h; exact absurd rfl h) (by intro k h; simp at h) (by intro h; simp at h) (by intro h; simp at h) (by intro h; simp at h)
theorem ty178 : TyOK Try.prog 178 { size := 1, bytes := 8, zero := [.nilp] } := by
  have hu := Try.underlying178
  refine tyOK_mk inf178 hu (by simp [EltOk, Value.cells, Value.oneCell', isAggV]) (fun c => by simp [Value.cells, RepL, RepV]) (by intro w; simp [isAgg, run_underlying hu]) (by intro h; exact absurd rfl h) (by intro i x s h; simp at h) (by intro h; exact absurd rfl h) (by intro k h; simp at h) (by intro h; simp at h) (by intro h; simp at h) (by intro h; simp at h)
theorem ty196 : TyOK Try.prog 196 { size := 1, bytes := 8, zero := [.nilp] } := by
  have hu := Try.underlying196
  refine tyOK_mk inf196 hu (by simp [EltOk, Value.cells, Value.oneCell', isAggV]) (fun c => by simp [Value.cells, RepL, RepV]) (by intro w; simp [isAgg, run_underlying hu]) (by intro h; exact absurd rfl h) (by intro i x s h; simp at h) (by intro h; exact absurd rfl h) (by intro k h; simp at h) (by intro h; simp at h) (by intro h; simp at h) (by intro h; simp at h)
theorem ty29 : TyOK Try.prog 29 { size := 2, bytes := 16, offs := [(0, 1), (1, 1)], zero := [.num .i64 0, .num .i64 0], eqb := true } := by
  have hu := Try.underlying29
  refine tyOK_mk inf29 hu (by simp [EltOk, Value.cells, Value.oneCell', isAggV]) (fun c => by simp [Value.cells, RepL, RepV]) (by intro w; simp [isAgg, run_underlying hu]) (by intro h; exact absurd rfl h) (by
    intro i x s h
    match i, h with
    | 0, h => simp at h; obtain ⟨rfl, rfl⟩ := h; exact ⟨_, _, hu, rfl, rfl, by decide, ty3.size, ty3.agg, rfl⟩
    | 1, h => simp at h; obtain ⟨rfl, rfl⟩ := h; exact ⟨_, _, hu, rfl, rfl, by decide, ty3.size, ty3.agg, rfl⟩
    | n + 2, h => simp at h) (by intro _; exact ⟨_, hu, fun w => by simp [ty3.size]⟩) (by intro k h; simp at h) (by intro h; simp at h) (by intro h; simp at h) (fun _ => eqg_flat (by kernel_rfl) (by kernel_rfl) hu 2 (key2 ⟨by decide, Try.underlying3⟩ ⟨by decide, Try.underlying3⟩ rfl rfl))
theorem ty30 : TyOK Try.prog 30 { size := 2, bytes := 16, offs := [(0, 1), (1, 1)], zero := [.num .i64 0, .num .i64 0], eqb := true } := by
  have hu := Try.underlying30
  refine tyOK_mk inf30 hu (by simp [EltOk, Value.cells, Value.oneCell', isAggV]) (fun c => by simp [Value.cells, RepL, RepV]) (by intro w; simp [isAgg, run_underlying hu]) (by intro h; exact absurd rfl h) (by
    intro i x s h
    match i, h with
    | 0, h => simp at h; obtain ⟨rfl, rfl⟩ := h; exact ⟨_, _, hu, rfl, rfl, by decide, ty3.size, ty3.agg, rfl⟩
    | 1, h => simp at h; obtain ⟨rfl, rfl⟩ := h; exact ⟨_, _, hu, rfl, rfl, by decide, ty3.size, ty3.agg, rfl⟩
    | n + 2, h => simp at h) (by intro _; exact ⟨_, hu, fun w => by simp [ty3.size]⟩) (by intro k h; simp at h) (by intro h; simp at h) (by intro h; simp at h) (fun _ => eqg_flat (by kernel_rfl) (by kernel_rfl) hu 2 (key2 ⟨by decide, Try.underlying3⟩ ⟨by decide, Try.underlying3⟩ rfl rfl))
theorem ty42 : TyOK Try.prog 42 { size := 2, bytes := 16, offs := [(0, 1), (1, 1)], zero := [.num .i64 0, .num .i64 0], eqb := true } := by
  have hu := Try.underlying42
  refine tyOK_mk inf42 hu (by simp [EltOk, Value.cells, Value.oneCell', isAggV]) (fun c => by simp [Value.cells, RepL, RepV]) (by intro w; simp [isAgg, run_underlying hu]) (by intro h; exact absurd rfl h) (by
    intro i x s h
    match i, h with
    | 0, h => simp at h; obtain ⟨rfl, rfl⟩ := h; exact ⟨_, _, hu, rfl, rfl, by decide, ty3.size, ty3.agg, rfl⟩
    | 1, h => simp at h; obtain ⟨rfl, rfl⟩ := h; exact ⟨_, _, hu, rfl, rfl, by decide, ty3.size, ty3.agg, rfl⟩
    | n + 2, h => simp at h) (by intro _; exact ⟨_, hu, fun w => by simp [ty3.size]⟩) (by intro k h; simp at h) (by intro h; simp at h) (by intro h; simp at h) (fun _ => eqg_flat (by kernel_rfl) (by kernel_rfl) hu 2 (key2 ⟨by decide, Try.underlying3⟩ ⟨by decide, Try.underlying3⟩ rfl rfl))
theorem ty43 : TyOK Try.prog 43 { size := 2, bytes := 16, offs := [(0, 1), (1, 1)], zero := [.num .i64 0, .num .i64 0], eqb := true } := by
  have hu := Try.underlying43
  refine tyOK_mk inf43 hu (by simp [EltOk, Value.cells, Value.oneCell', isAggV]) (fun c => by simp [Value.cells, RepL, RepV]) (by intro w; simp [isAgg, run_underlying hu]) (by intro h; exact absurd rfl h) (by
    intro i x s h
    match i, h with
    | 0, h => simp at h; obtain ⟨rfl, rfl⟩ := h; exact ⟨_, _, hu, rfl, rfl, by decide, ty3.size, ty3.agg, rfl⟩
    | 1, h => simp at h; obtain ⟨rfl, rfl⟩ := h; exact ⟨_, _, hu, rfl, rfl, by decide, ty3.size, ty3.agg, rfl⟩
    | n + 2, h => simp at h) (by intro _; exact ⟨_, hu, fun w => by simp [ty3.size]⟩) (by intro k h; simp at h) (by intro h; simp at h) (by intro h; simp at h) (fun _ => eqg_flat (by kernel_rfl) (by kernel_rfl) hu 2 (key2 ⟨by decide, Try.underlying3⟩ ⟨by decide, Try.underlying3⟩ rfl rfl))
theorem ty96 : TyOK Try.prog 96 { size := 2, bytes := 16, offs := [(0, 1), (1, 1)], zero := [.num .i64 0, .num .i64 0], eqb := true } := by
  have hu := Try.underlying96
  refine tyOK_mk inf96 hu (by simp [EltOk, Value.cells, Value.oneCell', isAggV]) (fun c => by simp [Value.cells, RepL, RepV]) (by intro w; simp [isAgg, run_underlying hu]) (by intro h; exact absurd rfl h) (by
    intro i x s h
    match i, h with
    | 0, h => simp at h; obtain ⟨rfl, rfl⟩ := h; exact ⟨_, _, hu, rfl, rfl, by decide, ty3.size, ty3.agg, rfl⟩
    | 1, h => simp at h; obtain ⟨rfl, rfl⟩ := h; exact ⟨_, _, hu, rfl, rfl, by decide, ty3.size, ty3.agg, rfl⟩
    | n + 2, h => simp at h) (by intro _; exact ⟨_, hu, fun w => by simp [ty3.size]⟩) (by intro k h; simp at h) (by intro h; simp at h) (by intro h; simp at h) (fun _ => eqg_flat (by kernel_rfl) (by kernel_rfl) hu 2 (key2 ⟨by decide, Try.underlying3⟩ ⟨by decide, Try.underlying3⟩ rfl rfl))
theorem ty99 : TyOK Try.prog 99 { size := 2, bytes := 16, offs := [(0, 1), (1, 1)], zero := [.num .i64 0, .num .i64 0], eqb := true } := by
  have hu := Try.underlying99
  refine tyOK_mk inf99 hu (by simp [EltOk, Value.cells, Value.oneCell', isAggV]) (fun c => by simp [Value.cells, RepL, RepV]) (by intro w; simp [isAgg, run_underlying hu]) (by intro h; exact absurd rfl h) (by
    intro i x s h
    match i, h with
    | 0, h => simp at h; obtain ⟨rfl, rfl⟩ := h; exact ⟨_, _, hu, rfl, rfl, by decide, ty3.size, ty3.agg, rfl⟩
    | 1, h => simp at h; obtain ⟨rfl, rfl⟩ := h; exact ⟨_, _, hu, rfl, rfl, by decide, ty3.size, ty3.agg, rfl⟩
    | n + 2, h => simp at h) (by intro _; exact ⟨_, hu, fun w => by simp [ty3.size]⟩) (by intro k h; simp at h) (by intro h; simp at h) (by intro h; simp at h) (fun _ => eqg_flat (by kernel_rfl) (by kernel_rfl) hu 2 (key2 ⟨by decide, Try.underlying3⟩ ⟨by decide, Try.underlying3⟩ rfl rfl))
theorem ty109 : TyOK Try.prog 109 { size := 2, bytes := 32, offs := [(0, 1), (1, 1)], zero := [.nils, .num .i64 0] } := by
  have hu := Try.underlying109
  refine tyOK_mk inf109 hu (by simp [EltOk, Value.cells, Value.oneCell', isAggV]) (fun c => by simp [Value.cells, RepL, RepV]) (by intro w; simp [isAgg, run_underlying hu]) (by intro h; exact absurd rfl h) (by
    intro i x s h
    match i, h with
    | 0, h => simp at h; obtain ⟨rfl, rfl⟩ := h; exact ⟨_, _, hu, rfl, rfl, by decide, ty22.size, ty22.agg, rfl⟩
    | 1, h => simp at h; obtain ⟨rfl, rfl⟩ := h; exact ⟨_, _, hu, rfl, rfl, by decide, ty3.size, ty3.agg, rfl⟩
    | n + 2, h => simp at h) (by intro _; exact ⟨_, hu, fun w => by simp [ty3.size, ty22.size]⟩) (by intro k h; simp at h) (by intro h; simp at h) (by intro h; simp at h) (by intro h; simp at h)
theorem ty110 : TyOK Try.prog 110 { size := 2, bytes := 32, offs := [(0, 1), (1, 1)], zero := [.nils, .num .i64 0] } := by
  have hu := Try.underlying110
  refine tyOK_mk inf110 hu (by simp [EltOk, Value.cells, Value.oneCell', isAggV]) (fun c => by simp [Value.cells, RepL, RepV]) (by intro w; simp [isAgg, run_underlying hu]) (by intro h; exact absurd rfl h) (by
    intro i x s h
    match i, h with
    | 0, h => simp at h; obtain ⟨rfl, rfl⟩ := h; exact ⟨_, _, hu, rfl, rfl, by decide, ty22.size, ty22.agg, rfl⟩
    | 1, h => simp at h; obtain ⟨rfl, rfl⟩ := h; exact ⟨_, _, hu, rfl, rfl, by decide, ty3.size, ty3.agg, rfl⟩
    | n + 2, h => simp at h) (by intro _; exact ⟨_, hu, fun w => by simp [ty3.size, ty22.size]⟩) (by intro k h; simp at h) (by intro h; simp at h) (by intro h; simp at h) (by intro h; simp at h)
theorem ty124 : TyOK Try.prog 124 { size := 2, bytes := 16, offs := [(0, 1), (1, 1)], zero := [.num .i64 0, .num .i64 0], eqb := true } := by
  have hu := Try.underlying124
  refine tyOK_mk inf124 hu (by simp [EltOk, Value.cells, Value.oneCell', isAggV]) (fun c => by simp [Value.cells, RepL, RepV]) (by intro w; simp [isAgg, run_underlying hu]) (by intro h; exact absurd rfl h) (by
    intro i x s h
    match i, h with
    | 0, h => simp at h; obtain ⟨rfl, rfl⟩ := h; exact ⟨_, _, hu, rfl, rfl, by decide, ty3.size, ty3.agg, rfl⟩
    | 1, h => simp at h; obtain ⟨rfl, rfl⟩ := h; exact ⟨_, _, hu, rfl, rfl, by decide, ty3.size, ty3.agg, rfl⟩
    | n + 2, h => simp at h) (by intro _; exact ⟨_, hu, fun w => by simp [ty3.size]⟩) (by intro k h; simp at h) (by intro h; simp at h) (by intro h; simp at h) (fun _ => eqg_flat (by kernel_rfl) (by kernel_rfl) hu 2 (key2 ⟨by decide, Try.underlying3⟩ ⟨by decide, Try.underlying3⟩ rfl rfl))
theorem ty125 : TyOK Try.prog 125 { size := 2, bytes := 16, offs := [(0, 1), (1, 1)], zero := [.num .i64 0, .num .i64 0], eqb := true } := by
  have hu := Try.underlying125
  refine tyOK_mk inf125 hu (by simp [EltOk, Value.cells, Value.oneCell', isAggV]) (fun c => by simp [Value.cells, RepL, RepV]) (by intro w; simp [isAgg, run_underlying hu]) (by intro h; exact absurd rfl h) (by
    intro i x s h
    match i, h with
    | 0, h => simp at h; obtain ⟨rfl, rfl⟩ := h; exact ⟨_, _, hu, rfl, rfl, by decide, ty3.size, ty3.agg, rfl⟩
    | 1, h => simp at h; obtain ⟨rfl, rfl⟩ := h; exact ⟨_, _, hu, rfl, rfl, by decide, ty3.size, ty3.agg, rfl⟩
    | n + 2, h => simp at h) (by intro _; exact ⟨_, hu, fun w => by simp [ty3.size]⟩) (by intro k h; simp at h) (by intro h; simp at h) (by intro h; simp at h) (fun _ => eqg_flat (by kernel_rfl) (by kernel_rfl) hu 2 (key2 ⟨by decide, Try.underlying3⟩ ⟨by decide, Try.underlying3⟩ rfl rfl))
theorem ty36 : TyOK Try.prog 36 { size := 4, bytes := 32, offs := [(0, 2), (2, 2)], zero := [.num .i64 0, .num .i64 0, .num .i64 0, .num .i64 0], eqb := true } := by
  have hu := Try.underlying36
  refine tyOK_mk inf36 hu (by simp [EltOk, Value.cells, Value.oneCell', isAggV]) (fun c => by simp [Value.cells, RepL, RepV]) (by intro w; simp [isAgg, run_underlying hu]) (by intro h; exact absurd rfl h) (by
    intro i x s h
    match i, h with
    | 0, h => simp at h; obtain ⟨rfl, rfl⟩ := h; exact ⟨_, _, hu, rfl, rfl, by decide, ty30.size, ty30.agg, rfl⟩
    | 1, h => simp at h; obtain ⟨rfl, rfl⟩ := h; exact ⟨_, _, hu, rfl, rfl, by decide, ty30.size, ty30.agg, rfl⟩
    | n + 2, h => simp at h) (by intro _; exact ⟨_, hu, fun w => by simp [ty30.size]⟩) (by intro k h; simp at h) (by intro h; simp at h) (by intro h; simp at h) (fun _ => eqg_flat2 (by kernel_rfl) (by kernel_rfl) hu 4 (fun d => key22 (by decide) (by decide) (by kernel_rfl) (by kernel_rfl) Try.underlying30 Try.underlying30 ty30.size ty30.size ⟨by decide, Try.underlying3⟩ ⟨by decide, Try.underlying3⟩ rfl rfl rfl rfl d))
theorem ty37 : TyOK Try.prog 37 { size := 4, bytes := 32, offs := [(0, 2), (2, 2)], zero := [.num .i64 0, .num .i64 0, .num .i64 0, .num .i64 0], eqb := true } := by
  have hu := Try.underlying37
  refine tyOK_mk inf37 hu (by simp [EltOk, Value.cells, Value.oneCell', isAggV]) (fun c => by simp [Value.cells, RepL, RepV]) (by intro w; simp [isAgg, run_underlying hu]) (by intro h; exact absurd rfl h) (by
    intro i x s h
    match i, h with
    | 0, h => simp at h; obtain ⟨rfl, rfl⟩ := h; exact ⟨_, _, hu, rfl, rfl, by decide, ty30.size, ty30.agg, rfl⟩
    | 1, h => simp at h; obtain ⟨rfl, rfl⟩ := h; exact ⟨_, _, hu, rfl, rfl, by decide, ty30.size, ty30.agg, rfl⟩
    | n + 2, h => simp at h) (by intro _; exact ⟨_, hu, fun w => by simp [ty30.size]⟩) (by intro k h; simp at h) (by intro h; simp at h) (by intro h; simp at h) (fun _ => eqg_flat2 (by kernel_rfl) (by kernel_rfl) hu 4 (fun d => key22 (by decide) (by decide) (by kernel_rfl) (by kernel_rfl) Try.underlying30 Try.underlying30 ty30.size ty30.size ⟨by decide, Try.underlying3⟩ ⟨by decide, Try.underlying3⟩ rfl rfl rfl rfl d))
theorem ty126 : TyOK Try.prog 126 { size := 4, bytes := 32, offs := [(0, 2), (2, 2)], zero := [.num .i64 0, .num .i64 0, .num .i64 0, .num .i64 0], eqb := true } := by
  have hu := Try.underlying126
  refine tyOK_mk inf126 hu (by simp [EltOk, Value.cells, Value.oneCell', isAggV]) (fun c => by simp [Value.cells, RepL, RepV]) (by intro w; simp [isAgg, run_underlying hu]) (by intro h; exact absurd rfl h) (by
    intro i x s h
    match i, h with
    | 0, h => simp at h; obtain ⟨rfl, rfl⟩ := h; exact ⟨_, _, hu, rfl, rfl, by decide, ty125.size, ty125.agg, rfl⟩
    | 1, h => simp at h; obtain ⟨rfl, rfl⟩ := h; exact ⟨_, _, hu, rfl, rfl, by decide, ty125.size, ty125.agg, rfl⟩
    | n + 2, h => simp at h) (by intro _; exact ⟨_, hu, fun w => by simp [ty125.size]⟩) (by intro k h; simp at h) (by intro h; simp at h) (by intro h; simp at h) (fun _ => eqg_flat2 (by kernel_rfl) (by kernel_rfl) hu 4 (fun d => key22 (by decide) (by decide) (by kernel_rfl) (by kernel_rfl) Try.underlying125 Try.underlying125 ty125.size ty125.size ⟨by decide, Try.underlying3⟩ ⟨by decide, Try.underlying3⟩ rfl rfl rfl rfl d))
theorem ty127 : TyOK Try.prog 127 { size := 4, bytes := 32, offs := [(0, 2), (2, 2)], zero := [.num .i64 0, .num .i64 0, .num .i64 0, .num .i64 0], eqb := true } := by
  have hu := Try.underlying127
  refine tyOK_mk inf127 hu (by simp [EltOk, Value.cells, Value.oneCell', isAggV]) (fun c => by simp [Value.cells, RepL, RepV]) (by intro w; simp [isAgg, run_underlying hu]) (by intro h; exact absurd rfl h) (by
    intro i x s h
    match i, h with
    | 0, h => simp at h; obtain ⟨rfl, rfl⟩ := h; exact ⟨_, _, hu, rfl, rfl, by decide, ty125.size, ty125.agg, rfl⟩
    | 1, h => simp at h; obtain ⟨rfl, rfl⟩ := h; exact ⟨_, _, hu, rfl, rfl, by decide, ty125.size, ty125.agg, rfl⟩
    | n + 2, h => simp at h) (by intro _; exact ⟨_, hu, fun w => by simp [ty125.size]⟩) (by intro k h; simp at h) (by intro h; simp at h) (by intro h; simp at h) (fun _ => eqg_flat2 (by kernel_rfl) (by kernel_rfl) hu 4 (fun d => key22 (by decide) (by decide) (by kernel_rfl) (by kernel_rfl) Try.underlying125 Try.underlying125 ty125.size ty125.size ⟨by decide, Try.underlying3⟩ ⟨by decide, Try.underlying3⟩ rfl rfl rfl rfl d))
theorem ty139 : TyOK Try.prog 139 { size := 4, bytes := 32, offs := [(0, 2), (2, 2)], zero := [.num .i64 0, .num .i64 0, .num .i64 0, .num .i64 0], eqb := true } := by
  have hu := Try.underlying139
  refine tyOK_mk inf139 hu (by simp [EltOk, Value.cells, Value.oneCell', isAggV]) (fun c => by simp [Value.cells, RepL, RepV]) (by intro w; simp [isAgg, run_underlying hu]) (by intro h; exact absurd rfl h) (by
    intro i x s h
    match i, h with
    | 0, h => simp at h; obtain ⟨rfl, rfl⟩ := h; exact ⟨_, _, hu, rfl, rfl, by decide, ty30.size, ty30.agg, rfl⟩
    | 1, h => simp at h; obtain ⟨rfl, rfl⟩ := h; exact ⟨_, _, hu, rfl, rfl, by decide, ty30.size, ty30.agg, rfl⟩
    | n + 2, h => simp at h) (by intro _; exact ⟨_, hu, fun w => by simp [ty30.size]⟩) (by intro k h; simp at h) (by intro h; simp at h) (by intro h; simp at h) (fun _ => eqg_flat2 (by kernel_rfl) (by kernel_rfl) hu 4 (fun d => key22 (by decide) (by decide) (by kernel_rfl) (by kernel_rfl) Try.underlying30 Try.underlying30 ty30.size ty30.size ⟨by decide, Try.underlying3⟩ ⟨by decide, Try.underlying3⟩ rfl rfl rfl rfl d))
theorem ty140 : TyOK Try.prog 140 { size := 4, bytes := 32, offs := [(0, 2), (2, 2)], zero := [.num .i64 0, .num .i64 0, .num .i64 0, .num .i64 0], eqb := true } := by
  have hu := Try.underlying140
  refine tyOK_mk inf140 hu (by simp [EltOk, Value.cells, Value.oneCell', isAggV]) (fun c => by simp [Value.cells, RepL, RepV]) (by intro w; simp [isAgg, run_underlying hu]) (by intro h; exact absurd rfl h) (by
    intro i x s h
    match i, h with
    | 0, h => simp at h; obtain ⟨rfl, rfl⟩ := h; exact ⟨_, _, hu, rfl, rfl, by decide, ty30.size, ty30.agg, rfl⟩
    | 1, h => simp at h; obtain ⟨rfl, rfl⟩ := h; exact ⟨_, _, hu, rfl, rfl, by decide, ty30.size, ty30.agg, rfl⟩
    | n + 2, h => simp at h) (by intro _; exact ⟨_, hu, fun w => by simp [ty30.size]⟩) (by intro k h; simp at h) (by intro h; simp at h) (by intro h; simp at h) (fun _ => eqg_flat2 (by kernel_rfl) (by kernel_rfl) hu 4 (fun d => key22 (by decide) (by decide) (by kernel_rfl) (by kernel_rfl) Try.underlying30 Try.underlying30 ty30.size ty30.size ⟨by decide, Try.underlying3⟩ ⟨by decide, Try.underlying3⟩ rfl rfl rfl rfl d))
theorem ty82 : TyOK Try.prog 82 { size := 5, bytes := 40, offs := [(0, 4), (4, 1)], zero := [.num .i64 0, .num .i64 0, .num .i64 0, .num .i64 0, .num .i64 0] } := by
  have hu := Try.underlying82
  refine tyOK_mk inf82 hu (by simp [EltOk, Value.cells, Value.oneCell', isAggV]) (fun c => by simp [Value.cells, RepL, RepV]) (by intro w; simp [isAgg, run_underlying hu]) (by intro h; exact absurd rfl h) (by
    intro i x s h
    match i, h with
    | 0, h => simp at h; obtain ⟨rfl, rfl⟩ := h; exact ⟨_, _, hu, rfl, rfl, by decide, ty37.size, ty37.agg, rfl⟩
    | 1, h => simp at h; obtain ⟨rfl, rfl⟩ := h; exact ⟨_, _, hu, rfl, rfl, by decide, ty3.size, ty3.agg, rfl⟩
    | n + 2, h => simp at h) (by intro _; exact ⟨_, hu, fun w => by simp [ty3.size, ty37.size]⟩) (by intro k h; simp at h) (by intro h; simp at h) (by intro h; simp at h) (by intro h; simp at h)
theorem ty83 : TyOK Try.prog 83 { size := 5, bytes := 40, offs := [(0, 4), (4, 1)], zero := [.num .i64 0, .num .i64 0, .num .i64 0, .num .i64 0, .num .i64 0] } := by
  have hu := Try.underlying83
  refine tyOK_mk inf83 hu (by simp [EltOk, Value.cells, Value.oneCell', isAggV]) (fun c => by simp [Value.cells, RepL, RepV]) (by intro w; simp [isAgg, run_underlying hu]) (by intro h; exact absurd rfl h) (by
    intro i x s h
    match i, h with
    | 0, h => simp at h; obtain ⟨rfl, rfl⟩ := h; exact ⟨_, _, hu, rfl, rfl, by decide, ty37.size, ty37.agg, rfl⟩
    | 1, h => simp at h; obtain ⟨rfl, rfl⟩ := h; exact ⟨_, _, hu, rfl, rfl, by decide, ty3.size, ty3.agg, rfl⟩
    | n + 2, h => simp at h) (by intro _; exact ⟨_, hu, fun w => by simp [ty3.size, ty37.size]⟩) (by intro k h; simp at h) (by intro h; simp at h) (by intro h; simp at h) (by intro h; simp at h)

theorem tabOK : TOK Try.prog tab := by
  refine lkD_ok ?_
  unfold tabL
  refine fok_cons ty2 (fok_cons ty3 (fok_cons ty4 (fok_cons ty5 (fok_cons ty9 (fok_cons ty12 (fok_cons ty21 (fok_cons ty22 (fok_cons ty23 (fok_cons ty25 (fok_cons ty29 (fok_cons ty30 (fok_cons ty32 (fok_cons ty36 (fok_cons ty37 (fok_cons ty39 (fok_cons ty42 (fok_cons ty43 (fok_cons ty48 (fok_cons ty54 (fok_cons ty68 (fok_cons ty82 (fok_cons ty83 (fok_cons ty84 (fok_cons ty96 (fok_cons ty99 (fok_cons ty109 (fok_cons ty110 (fok_cons ty113 (fok_cons ty124 (fok_cons ty125 (fok_cons ty126 (fok_cons ty127 (fok_cons ty137 (fok_cons ty139 (fok_cons ty140 (fok_cons ty142 (fok_cons ty150 (fok_cons ty152 (fok_cons ty159 (fok_cons ty162 (fok_cons ty166 (fok_cons ty178 (fok_cons ty196 (fok_nil))))))))))))))))))))))))))))))))))))))))))))

end Go.Proofs.Ytodeicbcacggdaa
