/- Contracts of the library on texts of numbers: Itoa, Atoi, Cut; what the worlds hold in which they are called. -/
import Derived.Test.YtggigfogckeamaaDoorRB
import Derived.Test.YtggigfogckeamaaDoorLayD
set_option linter.unusedVariables false
set_option linter.unusedSimpArgs false
set_option maxHeartbeats 1600000
set_option maxRecDepth 100000
namespace Go.Proofs.YtggigfogckeamaaDoor
open Go Go.Ideal Go.Pl

/-- What is laid: the table of powers of ten, the two errors, the longest text that is searched at once. -/
def LaidW (w : World) : Prop :=
  Lib.TabIs Tryd.prog w "internal/strconv.uint64pow10" .u64 Lib.pow10Tab ∧ (∃ tp p, w.var? Tryd.prog "strconv.ErrSyntax" = some #[.iface tp p]) ∧
  (∃ tp p, w.var? Tryd.prog "strconv.ErrRange" = some #[.iface tp p]) ∧ ∃ m, w.cell? ⟨0, 0, none⟩ = some (.int .i64 m)
theorem var_stab {P : Program} {w w' : World} {n : String} {cs : Array Value} (hc : Chg (fun _ => False) w w') (h : w.var? P n = some cs) : w'.var? P n = some cs := by
  unfold World.var? at *
  cases hg : P.globalNamed n with
  | none => rw [hg] at h; simp at h
  | some g =>
    rw [hg] at h
    simp only [Option.bind_some] at h ⊢
    have hlt : g < w.heap.size := by
      rcases Nat.lt_or_ge g w.heap.size with q | q
      · exact q
      · rw [Array.getElem?_eq_none q] at h; cases h
    rw [hc.block g hlt (fun h => h)]
    exact h
theorem laidW_stab : StabI LaidW := by
  rintro w w' hc ⟨h1, ⟨t2, p2, h2⟩, ⟨t3, p3, h3⟩, m, h4⟩
  exact ⟨var_stab hc h1, ⟨t2, p2, var_stab hc h2⟩, ⟨t3, p3, var_stab hc h3⟩, m, (hc.cell (lt_of_cell h4) (fun h => h)).trans h4⟩

theorem gokW0 {I : World → Prop} : GOKW I Tryd.prog [] := fun f args h => h.elim
theorem gokW_cons {I : World → Prop} {P : Program} {f : Nat} {sp : PSpec} {G : List (Nat × PSpec)} (h : ∀ args, sp.pre args → ICallW I P f args (sp.val args)) (he : Enters P f) (hG : GOKW I P G) (ho : sp.own = false := by rfl) : GOKW I P ((f, sp) :: G) := by
  intro g args hp
  simp only [lkG] at hp ⊢
  by_cases e : f = g
  · subst e
    simp only [if_true] at hp ⊢
    exact ⟨h args hp, ho, he⟩
  · simp only [if_neg e] at hp ⊢
    exact hG g args hp
theorem gokW_consP {I : World → Prop} {P : Program} {f : Nat} {sp : PSpec} {G : List (Nat × PSpec)} (h : ∀ args, sp.pre args → ICall P f args (sp.val args)) (he : Enters P f) (hG : GOKW I P G) (ho : sp.own = false := by rfl) : GOKW I P ((f, sp) :: G) :=
  gokW_cons (fun args hp A w us _ => h args hp A w us) he hG ho

/-- The text of a number. -/
def itoaB (n : Int) : ByteArray := ⟨(Lib.itoa n).toArray⟩
def atoiV (s : ByteArray) : IV :=
  match Lib.atoiAll s.data.toList with
  | .ok v => .tup [.num .i64 v, .nilI]
  | .range => .tup [.num .i64 (Lib.atoiSat s.data.toList), .ifc]
  | _ => .tup [.num .i64 0, .ifc]
def cutV (s sep : ByteArray) : IV :=
  .tup [.str ⟨(Lib.cut s.data.toList sep.data.toList).1.toArray⟩, .str ⟨(Lib.cut s.data.toList sep.data.toList).2.1.toArray⟩, .bool (Lib.cut s.data.toList sep.data.toList).2.2]

theorem chg_drewN (w : World) (k : Nat) : Chg (fun _ => False) w (w.drewN k) := ⟨rfl, rfl, rfl, Nat.le_refl _, fun _ _ _ => rfl, trivial⟩
theorem chg_grow (w : World) (k : Nat) (os : Array Obj) : Chg (fun _ => False) w (Sort.grow (w.drewN k) os) :=
  ⟨rfl, rfl, rfl, by simp [Sort.grow], fun b hb _ => by simp only [Sort.grow]; exact Array.getElem?_append_left hb, trivial⟩
theorem chg_below {w w' : World} (h : RowKit.Below w.heap.size w w') : Chg (fun _ => False) w w' := ⟨h.os, h.tape, h.output, h.size, fun b hb _ => h.block b hb, trivial⟩

def g_strconv_Itoa : List (Nat × PSpec) := []
theorem gok_strconv_Itoa : GOK Tryd.prog g_strconv_Itoa := gok0
def h_strconv_Itoa : List (Nat × HSpec) := []
theorem hok_strconv_Itoa : HOK Tryd.prog h_strconv_Itoa := hok0
theorem c_strconv_Itoa (n : Int) (hn : -9223372036854775808 ≤ n ∧ n ≤ 9223372036854775807) : ICallW LaidW Tryd.prog 23 [.num .i64 n] (.str (itoaB n)) := by
  intro A w us hw hA hL
  simp only [RepL, RepV] at hL
  obtain ⟨_, _, rfl, rfl, rfl⟩ := hL
  refine (Any.strconv_Itoa Tryd.laysItoa n hn.1 hn.2 w hw.1).mono ?_
  rintro e w' ⟨rfl, k, os, rfl⟩
  exact ⟨_, rfl, chg_grow w k os, rfl⟩
def sp_strconv_Itoa : PSpec := ⟨fun xs => match xs with | [.num .i64 n] => ((fun (n : Int) => -9223372036854775808 ≤ n ∧ n ≤ 9223372036854775807) n) | _ => False, fun xs => match xs with | [.num _ n] => (fun (n : Int) => .str (itoaB n)) n | _ => .junk, false⟩
theorem gk_strconv_Itoa : ∀ args, sp_strconv_Itoa.pre args → ICallW LaidW Tryd.prog 23 args (sp_strconv_Itoa.val args) := by
  intro args h
  unfold sp_strconv_Itoa at h ⊢; simp only at h ⊢; split at h
  · have h0 := h
    try simp only [toPs_enc, toTs_enc, toQs_enc, toIs_enc, toBls_enc, toBy_enc] at *
    exact c_strconv_Itoa _ h0
  · exact h.elim
theorem en_strconv_Itoa : Enters Tryd.prog 23 := enters_of Tryd.func23 (by kernel_rfl) rfl

def g_strconv_Atoi : List (Nat × PSpec) := []
theorem gok_strconv_Atoi : GOK Tryd.prog g_strconv_Atoi := gok0
def h_strconv_Atoi : List (Nat × HSpec) := []
theorem hok_strconv_Atoi : HOK Tryd.prog h_strconv_Atoi := hok0
theorem c_strconv_Atoi (s : ByteArray) (hs : s.size ≤ 281474976710656) : ICallW LaidW Tryd.prog 19 [.str s] (atoiV s) := by
  intro A w us hw hA hL
  simp only [RepL, RepV] at hL
  obtain ⟨_, _, rfl, rfl, rfl⟩ := hL
  obtain ⟨-, ⟨t2, p2, h2⟩, ⟨t3, p3, h3⟩, -⟩ := hw
  unfold atoiV
  cases h : Lib.atoiAll s.data.toList
  · rename_i v
    refine (Any.strconv_Atoi_ok Tryd.laysAtoi s (by omega) v h w).mono ?_
    rintro e w' ⟨rfl, hw⟩
    refine ⟨_, rfl, ?_, ⟨_, rfl, _, _, rfl, rfl, _, _, rfl, rfl, rfl⟩⟩
    rcases hw with rfl | ⟨t, rfl⟩
    · exact Chg.refl _ _
    · exact chg_below (Lib.bytesWorld_below _ _ _)
  · refine (Any.strconv_Atoi_syntax_var Tryd.laysAtoi s hs h t2 p2 w h2).mono ?_
    rintro e w' ⟨N, rfl, -, -, hb⟩
    exact ⟨_, rfl, chg_below hb, ⟨_, rfl, _, _, rfl, rfl, _, _, rfl, ⟨_, _, rfl⟩, rfl⟩⟩
  · refine (Any.strconv_Atoi_range_var Tryd.laysAtoi s hs h t3 p3 w h3).mono ?_
    rintro e w' ⟨N, rfl, -, -, hb⟩
    exact ⟨_, rfl, chg_below hb, ⟨_, rfl, _, _, rfl, rfl, _, _, rfl, ⟨_, _, rfl⟩, rfl⟩⟩
def sp_strconv_Atoi : PSpec := ⟨fun xs => match xs with | [.str s] => ((fun (s : ByteArray) => s.size ≤ 281474976710656) s) | _ => False, fun xs => match xs with | [.str s] => (fun (s : ByteArray) => atoiV s) s | _ => .junk, false⟩
theorem gk_strconv_Atoi : ∀ args, sp_strconv_Atoi.pre args → ICallW LaidW Tryd.prog 19 args (sp_strconv_Atoi.val args) := by
  intro args h
  unfold sp_strconv_Atoi at h ⊢; simp only at h ⊢; split at h
  · have h0 := h
    try simp only [toPs_enc, toTs_enc, toQs_enc, toIs_enc, toBls_enc, toBy_enc] at *
    exact c_strconv_Atoi _ h0
  · exact h.elim
theorem en_strconv_Atoi : Enters Tryd.prog 19 := enters_of Tryd.func19 (by kernel_rfl) rfl

def g_strings_Cut : List (Nat × PSpec) := []
theorem gok_strings_Cut : GOK Tryd.prog g_strings_Cut := gok0
def h_strings_Cut : List (Nat × HSpec) := []
theorem hok_strings_Cut : HOK Tryd.prog h_strings_Cut := hok0
theorem c_strings_Cut (s : ByteArray) (sep : ByteArray) (hs : s.size < 4294967281) : ICallW LaidW Tryd.prog 18 [.str s, .str sep] (cutV s sep) := by
  intro A w us hw hA hL
  simp only [RepL, RepV] at hL
  obtain ⟨_, _, rfl, rfl, _, _, rfl, rfl, rfl⟩ := hL
  obtain ⟨-, -, -, m, hm⟩ := hw
  refine (Any.strings_Cut Tryd.laysCut s sep m w hs hm).mono ?_
  rintro e w' ⟨rfl, n, rfl⟩
  exact ⟨_, rfl, chg_drewN w n, ⟨_, rfl, _, _, rfl, rfl, _, _, rfl, rfl, _, _, rfl, rfl, rfl⟩⟩
def sp_strings_Cut : PSpec := ⟨fun xs => match xs with | [.str s, .str sep] => ((fun (s : ByteArray) (sep : ByteArray) => s.size < 4294967281) s sep) | _ => False, fun xs => match xs with | [.str s, .str sep] => (fun (s : ByteArray) (sep : ByteArray) => cutV s sep) s sep | _ => .junk, false⟩
theorem gk_strings_Cut : ∀ args, sp_strings_Cut.pre args → ICallW LaidW Tryd.prog 18 args (sp_strings_Cut.val args) := by
  intro args h
  unfold sp_strings_Cut at h ⊢; simp only at h ⊢; split at h
  · have h0 := h
    try simp only [toPs_enc, toTs_enc, toQs_enc, toIs_enc, toBls_enc, toBy_enc] at *
    exact c_strings_Cut _ _ h0
  · exact h.elim
theorem en_strings_Cut : Enters Tryd.prog 18 := enters_of Tryd.func18 (by kernel_rfl) rfl

end Go.Proofs.YtggigfogckeamaaDoor
