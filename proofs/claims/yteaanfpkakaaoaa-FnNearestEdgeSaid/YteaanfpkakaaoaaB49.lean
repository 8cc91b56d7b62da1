/- The law on the sweep's triangles: the walks. -/
import Derived.Test.YteaanfpkakaaoaaB48
import Derived.Test.YteaanfpkakaaoaaBX
import Derived.Test.YteaanfpkakaaoaaBO
import Derived.Test.YteaanfpkakaaoaaBU
set_option linter.unusedVariables false
set_option linter.unusedSimpArgs false
set_option maxHeartbeats 1600000
set_option maxRecDepth 100000
namespace Go.Proofs.Yteaanfpkakaaoaa
open Go Go.Ideal Go.Pl Go.Sort

/-- What a list is after it was marked from k on. -/
def marksR : Nat → Int → List Tr
  | 0, _ => []
  | n + 1, k => (k, k + 1, k + 2) :: marksR n (k + 3)
theorem marksR_len : ∀ n k, (marksR n k).length = n
  | 0, _ => rfl
  | n + 1, k => by simp [marksR, marksR_len n]
theorem marksR_at : ∀ n (k : Int) i, i < n → tAt (marksR n k) i = (k + 3 * i, k + 3 * i + 1, k + 3 * i + 2)
  | n + 1, k, 0, _ => by simp [marksR]
  | n + 1, k, i + 1, h => by
    have := marksR_at n (k + 3) i (by omega)
    simp only [marksR, tAt, List.getD, List.getElem?_cons_succ] at this ⊢
    rw [this]
    refine Prod.ext ?_ (Prod.ext ?_ ?_) <;> simp only [] <;> omega
def heldR : List Tr → Int → Int
  | [], k => k
  | p :: l, k => if p.1 = k ∧ p.2.1 = k + 1 ∧ p.2.2 = k + 2 then heldR l (k + 3) else -1
theorem heldR_marks : ∀ n k, heldR (marksR n k) k = k + 3 * (n : Int)
  | 0, k => by simp [marksR, heldR]
  | n + 1, k => by
    rw [marksR, heldR, if_pos ⟨rfl, rfl, rfl⟩, heldR_marks n]
    omega
theorem heldR_step {l : List Tr} {i : Nat} {k : Int} (hi : i < l.length) : heldR (l.drop i) k = if (tAt l i).1 = k ∧ (tAt l i).2.1 = k + 1 ∧ (tAt l i).2.2 = k + 2 then heldR (l.drop (i + 1)) (k + 3) else -1 := by
  rw [drop_eq_g (d := (0, 0, 0)) hi, heldR]

theorem sweepP_len {l : List Pt} (h : l.length ≤ 20) : (sweepP l).length ≤ 524288 := by
  unfold sweepP
  split
  · exact Nat.zero_le _
  · obtain ⟨f1, f2, f3, f4⟩ := fstN_facts (l := l) (by omega)
    have hb := (swp_bd (l := l) f1 (l.length - fstN l)).2.1
    have := pow_20 (n := fstN l + (l.length - fstN l)) (by omega)
    omega
/-- What the sweep answers. -/
def swV (l : List Pt) : List Tr := if siteB l then sweepP l else []
def g_e_exsw_a : List (Nat × PSpec) := [(11, sp_laws_szPointS), (16, sp_laws_eqPointS)]
theorem gok_e_exsw_a : GOK Try.prog g_e_exsw_a := gok_cons gk_laws_szPointS en_laws_szPointS (gok_cons gk_laws_eqPointS en_laws_eqPointS (gok0))
theorem lk_e_exsw_a_laws_szPointS : lkG g_e_exsw_a 11 = sp_laws_szPointS := rfl
theorem lk_e_exsw_a_laws_eqPointS : lkG g_e_exsw_a 16 = sp_laws_eqPointS := rfl
def h_e_exsw_a : List (Nat × HSpec) := [(13, hs_laws_toPointS), (17, hs_laws_markPointS)]
theorem hok_e_exsw_a : HOK Try.prog h_e_exsw_a := hok_cons hk_laws_toPointS en_laws_toPointS (hok_cons hk_laws_markPointS en_laws_markPointS (hok0))
theorem lh_e_exsw_a_laws_szPointS : lkHS h_e_exsw_a 11 = none := rfl
theorem lh_e_exsw_a_laws_eqPointS : lkHS h_e_exsw_a 16 = none := rfl
theorem lh_e_exsw_a_laws_toPointS : lkHS h_e_exsw_a 13 = some hs_laws_toPointS := rfl
theorem lh_e_exsw_a_laws_markPointS : lkHS h_e_exsw_a 17 = some hs_laws_markPointS := rfl
def g_e_exsw_b : List (Nat × PSpec) := [(11, sp_laws_szPointS), (16, sp_laws_eqPointS)]
theorem gok_e_exsw_b : GOK Try.prog g_e_exsw_b := gok_cons gk_laws_szPointS en_laws_szPointS (gok_cons gk_laws_eqPointS en_laws_eqPointS (gok0))
theorem lk_e_exsw_b_laws_szPointS : lkG g_e_exsw_b 11 = sp_laws_szPointS := rfl
theorem lk_e_exsw_b_laws_eqPointS : lkG g_e_exsw_b 16 = sp_laws_eqPointS := rfl
def h_e_exsw_b : List (Nat × HSpec) := [(13, hs_laws_toPointS), (17, hs_laws_markPointS)]
theorem hok_e_exsw_b : HOK Try.prog h_e_exsw_b := hok_cons hk_laws_toPointS en_laws_toPointS (hok_cons hk_laws_markPointS en_laws_markPointS (hok0))
theorem lh_e_exsw_b_laws_szPointS : lkHS h_e_exsw_b 11 = none := rfl
theorem lh_e_exsw_b_laws_eqPointS : lkHS h_e_exsw_b 16 = none := rfl
theorem lh_e_exsw_b_laws_toPointS : lkHS h_e_exsw_b 13 = some hs_laws_toPointS := rfl
theorem lh_e_exsw_b_laws_markPointS : lkHS h_e_exsw_b 17 = some hs_laws_markPointS := rfl
end Go.Proofs.Yteaanfpkakaaoaa
