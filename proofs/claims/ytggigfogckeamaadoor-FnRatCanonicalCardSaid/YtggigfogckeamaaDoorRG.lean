/- The two decoders are one function: a text is decoded if it is the text of a fraction in lowest terms (no program in sight). -/
import Derived.Test.YtggigfogckeamaaDoorRF
import Derived.Lib.IndexMore
set_option linter.unusedVariables false
set_option linter.unusedSimpArgs false
set_option maxRecDepth 100000
namespace Go.Proofs.YtggigfogckeamaaDoor
open Go Go.Ideal Go.Pl

/-! digits -/
def isD (l : List UInt8) : Prop := ∀ c ∈ l, 48 ≤ c.toNat ∧ c.toNat ≤ 57
def valL (acc : Nat) (l : List UInt8) : Nat := l.foldl (fun a c => a * 10 + (c.toNat - 48)) acc
theorem valL_ge : ∀ (l : List UInt8) (acc : Nat), acc ≤ valL acc l
  | [], acc => Nat.le_refl _
  | c :: l, acc => Nat.le_trans (by omega) (valL_ge l (acc * 10 + (c.toNat - 48)))
theorem valL_cons (c : UInt8) (l : List UInt8) (acc : Nat) : valL acc (c :: l) = valL (acc * 10 + (c.toNat - 48)) l := by unfold valL; rw [List.foldl_cons]
theorem valL_app (l m : List UInt8) (acc : Nat) : valL acc (l ++ m) = valL (valL acc l) m := List.foldl_append
theorem pU_ok (l : List UInt8) : ∀ acc : Nat, isD l → valL acc l < 1844674407370955162 → Lib.parseUint10 acc l = .ok (valL acc l) := by
  induction l with
  | nil => intro acc _ _; rfl
  | cons c l ih =>
    intro acc hd hv
    have hc := hd c (List.mem_cons_self ..)
    rw [valL_cons] at hv ⊢
    have hg := valL_ge l (acc * 10 + (c.toNat - 48))
    have g1 : ¬ 1844674407370955162 ≤ acc := by omega
    have g2 : ¬ 18446744073709551616 ≤ acc * 10 + (c.toNat - 48) := by omega
    have h := ih (acc * 10 + (c.toNat - 48)) (fun x hx => hd x (List.mem_cons_of_mem _ hx)) hv
    simp only [Lib.parseUint10, if_pos hc, if_neg g1, if_neg g2, h]
theorem dg_nat {k : Nat} (h : k < 10) : (UInt8.ofNat (48 + k)).toNat = 48 + k := by
  simp only [UInt8.toNat_ofNat']; omega
theorem dd_isD (u : Nat) : isD (Lib.decDigits u) := by
  induction u using Nat.strongRecOn with
  | _ u ih =>
    rw [Lib.decDigits]
    split
    · rename_i h
      intro c hc
      rw [List.mem_singleton] at hc
      rw [hc, dg_nat h]; omega
    · rename_i h
      intro c hc
      rcases List.mem_append.1 hc with hc | hc
      · exact ih (u / 10) (by omega) c hc
      · rw [List.mem_singleton] at hc
        rw [hc, dg_nat (Nat.mod_lt _ (by decide))]; omega
theorem dd_val (u : Nat) : valL 0 (Lib.decDigits u) = u := by
  induction u using Nat.strongRecOn with
  | _ u ih =>
    rw [Lib.decDigits]
    split
    · rename_i h
      show 0 * 10 + ((UInt8.ofNat (48 + u)).toNat - 48) = u
      rw [dg_nat h]; omega
    · rename_i h
      rw [valL_app, ih (u / 10) (by omega)]
      show u / 10 * 10 + ((UInt8.ofNat (48 + u % 10)).toNat - 48) = u
      rw [dg_nat (Nat.mod_lt _ (by decide))]; omega
theorem dd_ne (u : Nat) : Lib.decDigits u ≠ [] := by
  rw [Lib.decDigits]
  split
  · simp
  · simp
theorem dd_len : ∀ (k u : Nat), u < 10 ^ (k + 1) → (Lib.decDigits u).length ≤ k + 1
  | 0, u, h => by rw [Lib.decDigits, dif_pos (by simpa using h)]; simp
  | k + 1, u, h => by
    rw [Lib.decDigits]
    split
    · simp
    · rename_i hu
      have := dd_len k (u / 10) (by rw [Nat.pow_succ] at h; omega)
      rw [List.length_append]
      simp only [List.length_singleton]
      omega
/-- Numbers that are not too large. -/
def Mid (n : Int) : Prop := -999999999999 ≤ n ∧ n ≤ 999999999999
theorem mag_dd {u : Nat} (h : u < 1000000000000) : Lib.parseMag (Lib.decDigits u) = .ok u := by
  unfold Lib.parseMag
  rw [if_neg (dd_ne u), pU_ok _ 0 (dd_isD u) (by rw [dd_val]; omega), dd_val]
theorem itoa_neg' {n : Int} (h : n < 0) : Lib.itoa n = 45 :: Lib.decDigits n.natAbs := by unfold Lib.itoa; rw [if_pos h]
theorem itoa_pos' {n : Int} (h : ¬ n < 0) : Lib.itoa n = Lib.decDigits n.toNat := by unfold Lib.itoa; rw [if_neg h]
theorem atoi_itoa {n : Int} (h : Mid n) : Lib.atoiAll (Lib.itoa n) = .ok n := by
  unfold Mid at h
  by_cases h0 : n < 0
  · rw [itoa_neg' h0]
    unfold Lib.atoiAll
    have e : (45 : UInt8).toNat = 45 := rfl
    simp only [e, or_true, if_true, mag_dd (show n.natAbs < 1000000000000 by omega)]
    rw [if_neg (by simp), if_neg (by omega)]
    congr 1
    omega
  · rw [itoa_pos' h0]
    have hm := mag_dd (show n.toNat < 1000000000000 by omega)
    have hd := dd_isD n.toNat
    cases hl : Lib.decDigits n.toNat with
    | nil => exact absurd hl (dd_ne _)
    | cons c l =>
      rw [hl] at hm hd
      have hc := hd c (List.mem_cons_self ..)
      have h1 : ¬ c.toNat = 43 := by omega
      have h2 : ¬ c.toNat = 45 := by omega
      unfold Lib.atoiAll
      have g : ¬ 9223372036854775808 ≤ n.toNat := by omega
      have e : ((n.toNat : Nat) : Int) = n := by omega
      simp only [h1, h2, or_self, hm, g, not_false_eq_true, and_false, false_and, if_false, e]
theorem aoV_itoa {n : Int} (h : Mid n) : aoV (itoaB n) = some n := by
  have e : (itoaB n).data.toList = Lib.itoa n := by simp [itoaB]
  unfold aoV
  rw [e, atoi_itoa h]

/-! the reference's reader -/
theorem dig_mk (l : List UInt8) (i : Nat) : dig ⟨l.toArray⟩ i = ((l.getD i 0).toNat : Int) := by
  unfold dig
  simp [List.getD, Array.getD_eq_getD_getElem?]
theorem parN_val (l : List UInt8) (hd : isD l) : ∀ i, i ≤ l.length → parN ⟨l.toArray⟩ i = (valL 0 (l.take i) : Int)
  | 0, _ => by simp [parN, valL]
  | i + 1, hi => by
    have hi' : i < l.length := by omega
    have hc := hd l[i] (List.getElem_mem hi')
    rw [parN, parN_val l hd i (by omega), dig_mk, List.take_add_one, List.getElem?_eq_getElem hi', valL_app]
    have e : l.getD i 0 = l[i] := by simp [List.getD, List.getElem?_eq_getElem hi']
    rw [e]
    show _ = ((valL 0 (List.take i l) * 10 + (l[i].toNat - 48) : Nat) : Int)
    omega
theorem size_mk (l : List UInt8) : (⟨l.toArray⟩ : ByteArray).size = l.length := by simp [ByteArray.size]
theorem ext_mk (l : List UInt8) (i j : Nat) : (⟨l.toArray⟩ : ByteArray).extract i j = ⟨((l.take j).drop i).toArray⟩ := by
  apply ByteArray.ext
  rw [ByteArray.data_extract]
  apply Array.toList_inj.1
  rw [Array.toList_extract]
  simp [List.extract, List.drop_take]
theorem parN_dd {u : Nat} (h : u < 1000000000000) : parN ⟨(Lib.decDigits u).toArray⟩ (min (⟨(Lib.decDigits u).toArray⟩ : ByteArray).size 12) = u := by
  have hl := dd_len 11 u (by omega)
  rw [size_mk, Nat.min_eq_left hl, parN_val _ (dd_isD u) _ (Nat.le_refl _), List.take_length, dd_val]
theorem parse_itoa {n : Int} (h : Mid n) : parseB (itoaB n) = n := by
  unfold Mid at h
  unfold itoaB
  by_cases h0 : n < 0
  · rw [itoa_neg' h0]
    have e1 : dig ⟨(45 :: Lib.decDigits n.natAbs).toArray⟩ 0 = 45 := by rw [dig_mk]; rfl
    unfold parseB
    rw [if_pos ⟨by rw [size_mk]; simp, e1⟩, size_mk, ext_mk, List.take_length]
    have e2 : (45 :: Lib.decDigits n.natAbs).drop 1 = Lib.decDigits n.natAbs := rfl
    rw [e2, parN_dd (by omega)]
    omega
  · rw [itoa_pos' h0]
    have hd := dd_isD n.toNat
    unfold parseB
    rw [if_neg, parN_dd (by omega)]
    · omega
    · rintro ⟨_, h2⟩
      rw [dig_mk] at h2
      cases hl : Lib.decDigits n.toNat with
      | nil => exact absurd hl (dd_ne _)
      | cons c l =>
        rw [hl] at h2 hd
        have hc := hd c (List.mem_cons_self ..)
        have : (c.toNat : Int) = 45 := h2
        omega

/-! no slash in a number -/
theorem itoa_no47 (n : Int) : ∀ c ∈ Lib.itoa n, c.toNat ≠ 47 := by
  intro c hc
  unfold Lib.itoa at hc
  split at hc
  · rcases List.mem_cons.1 hc with rfl | hc
    · decide
    · have := dd_isD _ c hc; omega
  · have := dd_isD _ c hc; omega
theorem fir_none {l : List UInt8} (h : ∀ c ∈ l, c.toNat ≠ 47) : firB ⟨l.toArray⟩ 47 = l.length := by
  unfold firB
  refine List.findIdx_eq_length_of_false (fun x hx => ?_)
  have := h x hx
  simp only [decide_eq_false_iff_not]
  omega
theorem fir_some {l m : List UInt8} (h : ∀ c ∈ l, c.toNat ≠ 47) : firB ⟨(l ++ 47 :: m).toArray⟩ 47 = l.length := by
  have e := fir_none h
  unfold firB at e ⊢
  simp only at e ⊢
  rw [List.findIdx_append, e, if_neg (Nat.lt_irrefl _)]
  simp [List.findIdx_cons]
theorem occ_none {l : List UInt8} (h : ∀ c ∈ l, c.toNat ≠ 47) (m : List UInt8) (j : Nat) (hj : j < l.length) : Lib.occAt (l ++ m) [47] j = false := by
  unfold Lib.occAt
  rw [List.drop_append_of_le_length (by omega), List.drop_eq_getElem_cons hj, List.cons_append]
  have := h l[j] (List.getElem_mem hj)
  have hne : (47 : UInt8) ≠ l[j] := by
    intro e
    rw [← e] at this
    exact this rfl
  show ((47 : UInt8) == l[j] && List.isPrefixOf [] (List.drop (j + 1) l ++ m)) = false
  rw [beq_eq_false_iff_ne.2 hne]
  rfl
theorem cut_none {l : List UInt8} (h : ∀ c ∈ l, c.toNat ≠ 47) : Lib.cut l [47] = (l, [], false) := by
  have e : Lib.index l [47] = -1 := by
    refine Lib.index_none (fun j hj => ?_)
    rcases Nat.lt_or_ge j l.length with q | q
    · have := occ_none h [] j q
      rwa [List.append_nil] at this
    · unfold Lib.occAt
      rw [List.drop_eq_nil_of_le q]
      rfl
  unfold Lib.cut
  rw [e, if_neg (by omega)]
theorem cut_some {l m : List UInt8} (h : ∀ c ∈ l, c.toNat ≠ 47) : Lib.cut (l ++ 47 :: m) [47] = (l, m, true) := by
  have e : Lib.index (l ++ 47 :: m) [47] = (l.length : Nat) := by
    refine Lib.index_first (by rw [List.length_append]; omega) ?_ (fun j hj => occ_none h _ j hj)
    unfold Lib.occAt
    rw [List.drop_left]
    rfl
  unfold Lib.cut
  rw [e, if_pos (by omega), Int.toNat_natCast, List.take_left]
  have : List.drop (l.length + [(47 : UInt8)].length) (l ++ 47 :: m) = m := by
    rw [show l ++ 47 :: m = (l ++ [47]) ++ m by simp, show l.length + [(47 : UInt8)].length = (l ++ [47]).length by simp]
    exact List.drop_left
  rw [this]

/-! the texts of fractions -/
def fmtL (r : Pt) : List UInt8 := if r.2 = 1 then Lib.itoa r.1 else Lib.itoa r.1 ++ 47 :: Lib.itoa r.2
theorem fmtB_eq (r : Pt) : fmtB r = ⟨(fmtL r).toArray⟩ := by
  unfold fmtB fmtL
  split
  · rfl
  · unfold itoaB
    rw [show (⟨#[47]⟩ : ByteArray) = ⟨([47] : List UInt8).toArray⟩ from rfl, bs_app, bs_app]
    simp
theorem vRat_mid {r : Pt} (h : vRat r = true) : Mid r.1 ∧ Mid r.2 := by
  have := vRat_bd h
  unfold Mid
  omega
theorem rd_fmt {r : Pt} (h : vRat r = true) : rdB (fmtB r) = r := by
  obtain ⟨h1, h2⟩ := vRat_mid h
  rw [fmtB_eq]
  unfold fmtL
  split
  · rename_i e
    unfold rdB
    rw [fir_none (itoa_no47 _), size_mk, if_neg (Nat.lt_irrefl _), ext_mk, List.take_length, List.drop_zero]
    have := parse_itoa h1
    unfold itoaB at this
    rw [this, ← e]
  · rename_i e
    unfold rdB
    rw [fir_some (itoa_no47 _), size_mk, if_pos (by rw [List.length_append, List.length_cons]; omega), ext_mk, ext_mk, List.take_length, List.take_left, List.drop_zero]
    have a1 := parse_itoa h1
    have a2 := parse_itoa h2
    unfold itoaB at a1 a2
    have : List.drop ((Lib.itoa r.1).length + 1) (Lib.itoa r.1 ++ 47 :: Lib.itoa r.2) = Lib.itoa r.2 := by
      rw [show Lib.itoa r.1 ++ 47 :: Lib.itoa r.2 = (Lib.itoa r.1 ++ [47]) ++ Lib.itoa r.2 by simp, show (Lib.itoa r.1).length + 1 = (Lib.itoa r.1 ++ [47]).length by simp]
      exact List.drop_left
    rw [this, a1, a2]
theorem spec_fmt {r : Pt} (h : vRat r = true) : specDec (fmtB r) = (r, true) := by
  unfold specDec
  rw [rd_fmt h, h]
  simp
theorem toList_eq {a b : ByteArray} (h : (a.toList == b.toList) = true) : a = b := by
  have := eq_of_beq h
  rw [Lib.toList_data, Lib.toList_data] at this
  exact ByteArray.ext (Array.toList_inj.1 this)
theorem spec_true {s : ByteArray} {r : Pt} (h : specDec s = (r, true)) : vRat r = true ∧ fmtB r = s := by
  unfold specDec at h
  split at h
  · rename_i hc
    rw [Bool.and_eq_true] at hc
    injection h with h1 h2
    rw [← h1]
    exact ⟨hc.1, toList_eq hc.2⟩
  · injection h with h1 h2; cases h2
theorem spec_false {s : ByteArray} {r : Pt} (h : specDec s = (r, false)) : r = (0, 0) := by
  unfold specDec at h
  split at h
  · injection h with h1 h2; cases h2
  · injection h with h1 h2; exact h1.symm
theorem cut_fmt {r : Pt} : Lib.cut (fmtB r).data.toList [47] = if r.2 = 1 then (Lib.itoa r.1, [], false) else (Lib.itoa r.1, Lib.itoa r.2, true) := by
  have e : (fmtB r).data.toList = fmtL r := by rw [fmtB_eq]
  rw [e]
  unfold fmtL
  split
  · exact cut_none (itoa_no47 _)
  · exact cut_some (itoa_no47 _)
theorem impl_fmt {r : Pt} (h : vRat r = true) : implDec (fmtB r) = (r, true) := by
  obtain ⟨h1, h2⟩ := vRat_mid h
  have a1 := aoV_itoa h1
  have a2 := aoV_itoa h2
  have he : ((encB r).toList == (fmtB r).toList) = true := by unfold encB; rw [if_pos h]; simp
  unfold implDec cutA cutF cutB
  rw [cut_fmt]
  unfold itoaB at a1 a2
  by_cases e : r.2 = 1
  · rw [if_pos e]
    have er : (r.1, (1 : Int)) = r := by rw [← e]
    simp only [a1, Bool.false_eq_true, if_false, er, he, if_true]
  · rw [if_neg e]
    simp only [a1, a2, if_true, he]
theorem impl_true {s : ByteArray} {r : Pt} (h : implDec s = (r, true)) : vRat r = true ∧ fmtB r = s := by
  have key : ∀ q : Pt, aoV (cutA s) ≠ none → ((encB q).toList == s.toList) = true → vRat q = true ∧ fmtB q = s := by
    intro q hn hq
    have hs := toList_eq hq
    by_cases hv : vRat q = true
    · exact ⟨hv, by unfold encB at hs; rw [if_pos hv] at hs; exact hs⟩
    · exfalso
      unfold encB at hs
      rw [if_neg hv] at hs
      rw [← hs] at hn
      exact hn rfl
  unfold implDec at h
  split at h
  · injection h with h1 h2; cases h2
  · rename_i v hv
    split at h
    · injection h with h1 h2; cases h2
    · rename_i d hd
      split at h
      · rename_i hq
        injection h with h1 h2
        rw [← h1]
        exact key _ (by rw [hv]; simp) hq
      · injection h with h1 h2; cases h2
theorem impl_false {s : ByteArray} {r : Pt} (h : implDec s = (r, false)) : r = (0, 0) := by
  unfold implDec at h
  split at h
  · injection h with h1 h2; exact h1.symm
  · split at h
    · injection h with h1 h2; exact h1.symm
    · split at h
      · injection h with h1 h2; cases h2
      · injection h with h1 h2; exact h1.symm
/-- Both decoders are one. -/
theorem dec_same (s : ByteArray) : implDec s = specDec s := by
  obtain ⟨⟨r, b⟩, h1⟩ : ∃ x, implDec s = x := ⟨_, rfl⟩
  obtain ⟨⟨q, c⟩, h2⟩ : ∃ x, specDec s = x := ⟨_, rfl⟩
  cases b with
  | true =>
    obtain ⟨hv, hs⟩ := impl_true h1
    rw [h1, ← hs, spec_fmt hv]
  | false =>
    cases c with
    | true =>
      obtain ⟨hv, hs⟩ := spec_true h2
      rw [h2, ← hs, impl_fmt hv]
    | false => rw [h1, h2, impl_false h1, spec_false h2]
theorem itoaB_ne (n : Int) : (itoaB n).size ≠ 0 := by
  unfold itoaB
  rw [size_mk]
  unfold Lib.itoa
  split
  · simp
  · intro h; exact dd_ne _ (List.length_eq_zero_iff.1 h)
theorem fmtB_ne (r : Pt) : fmtB r ≠ ⟨#[]⟩ := by
  intro h
  have h1 : (fmtB r).size = 0 := by rw [h]; rfl
  unfold fmtB at h1
  have := itoaB_ne r.1
  split at h1
  · omega
  · rw [ByteArray.size_append, ByteArray.size_append] at h1; omega
end Go.Proofs.YtggigfogckeamaaDoor
