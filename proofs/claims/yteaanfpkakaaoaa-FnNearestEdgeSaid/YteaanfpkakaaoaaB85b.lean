/- Contracts: the Delaunay triangles of the program. -/
import Derived.Test.YteaanfpkakaaoaaB84
import Derived.Test.YteaanfpkakaaoaaB85a
set_option linter.unusedVariables false
set_option linter.unusedSimpArgs false
set_option maxHeartbeats 16000000
set_option maxRecDepth 100000
namespace Go.Proofs.Yteaanfpkakaaoaa
open Go Go.Ideal Go.Pl Go.Sort

def g_impl_Delaunay : List (Nat × PSpec) := [(22, sp_impl_ordered)]
theorem gok_impl_Delaunay : GOK Try.prog g_impl_Delaunay := gok_cons gk_impl_ordered en_impl_ordered (gok0)
theorem lk_impl_Delaunay_impl_ordered : lkG g_impl_Delaunay 22 = sp_impl_ordered := rfl
def h_impl_Delaunay : List (Nat × HSpec) := [(23, hs_impl_sweep), (24, hs_impl_flip)]
theorem hok_impl_Delaunay : HOK Try.prog h_impl_Delaunay := hok_cons hk_impl_sweep en_impl_sweep (hok_cons hk_impl_flip en_impl_flip (hok0))
theorem lh_impl_Delaunay_impl_ordered : lkHS h_impl_Delaunay 22 = none := rfl
theorem lh_impl_Delaunay_impl_sweep : lkHS h_impl_Delaunay 23 = some hs_impl_sweep := rfl
theorem lh_impl_Delaunay_impl_flip : lkHS h_impl_Delaunay 24 = some hs_impl_flip := rfl
theorem c_impl_Delaunay (l : List Pt)  : ICall Try.prog 6 [.sl 2 (encPs l)] (.sl 3 (encTs (delV l))) := by
  cases hk : siteB l with
  | true => exact icall_of_F (icallF_ref' (c_impl_Delaunay_h l hk) (len_encTs _).symm (noSl_encTs _)) (fun id => rfl)
  | false =>
    have e : delV l = [] := by rw [delV, hk]; rfl
    rw [e]
    exact c_impl_Delaunay_e0 l hk
def sp_impl_Delaunay : PSpec := ⟨fun xs => match xs with | [.sl 2 les] => isPs les | _ => False, fun xs => match xs with | [.sl _ les] => (fun (l : List Pt) => .sl 3 (encTs (delV l))) (toPs les) | _ => .junk, false⟩
theorem gk_impl_Delaunay : ∀ args, sp_impl_Delaunay.pre args → ICall Try.prog 6 args (sp_impl_Delaunay.val args) := by
  intro args h
  unfold sp_impl_Delaunay at h ⊢; simp only at h ⊢; split at h
  · have h0 := h
    obtain ⟨l0, rfl⟩ := isP_ex h0
    simp only [toPs_enc] at *
    exact c_impl_Delaunay _ 
  · exact h.elim
theorem en_impl_Delaunay : Enters Try.prog 6 := enters_of Try.func6 (by kernel_rfl) rfl

end Go.Proofs.Yteaanfpkakaaoaa
