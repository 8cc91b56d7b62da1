/- Polygons: another first vertex, the other direction, a move. -/
import Derived.Test.YtlcndghaendieaaPl9
import Derived.Test.YtlcndghaendieaaPl21
import Derived.Test.YtlcndghaendieaaPl25

namespace Go.Pl

/-! lists that are the same but for the order -/
theorem range_inj_perm {n : Nat} {f : Nat → Nat} (hf : ∀ i, i < n → f i < n) (hi : ∀ i k, i < n → k < n → f i = f k → i = k) : ((List.range n).map f).Perm (List.range n) := by
  have hnd : ((List.range n).map f).Nodup := by
    rw [List.Nodup, List.pairwise_map]
    refine (List.nodup_range (n := n)).imp_of_mem fun {a b} ha hb hne e => hne (hi a b (List.mem_range.1 ha) (List.mem_range.1 hb) e)
  refine (List.perm_ext_iff_of_nodup hnd List.nodup_range).2 fun a => ⟨fun h => ?_, fun h => ?_⟩
  · obtain ⟨i, h1, rfl⟩ := List.mem_map.1 h
    exact List.mem_range.2 (hf i (List.mem_range.1 h1))
  · apply Classical.byContradiction
    intro hc
    have key : ∀ {a b : List Nat}, a.Nodup → (∀ x ∈ a, x ∈ b) → a.length ≤ b.length := by
      intro a
      induction a with
      | nil => intro b _ _; simp
      | cons x a ih =>
        intro b hn hs
        rw [List.nodup_cons] at hn
        have hx := hs x (by simp)
        have := ih (b := b.erase x) hn.2 (fun y hy => (List.mem_erase_of_ne (fun e : y = x => hn.1 (by rw [← e]; exact hy))).2 (hs y (by simp [hy])))
        rw [List.length_erase_of_mem hx] at this
        have := List.length_pos_of_mem hx
        simp only [List.length_cons]; omega
    have := key (a := a :: (List.range n).map f) (b := List.range n) (List.nodup_cons.2 ⟨hc, hnd⟩) (fun x hx => by
      rcases List.mem_cons.1 hx with rfl | hx
      · exact h
      · obtain ⟨i, h1, rfl⟩ := List.mem_map.1 hx
        exact List.mem_range.2 (hf i (List.mem_range.1 h1)))
    simp at this
    omega
theorem perm_of_index {α : Type} {n : Nat} {f : Nat → Nat} (hf : ∀ i, i < n → f i < n) (hi : ∀ i k, i < n → k < n → f i = f k → i = k) {A B : Nat → α} (h : ∀ i, i < n → A i = B (f i)) :
    ((List.range n).map A).Perm ((List.range n).map B) := by
  have e : (List.range n).map A = ((List.range n).map f).map B := by
    rw [List.map_map]
    exact List.map_congr_left fun i hm => h i (List.mem_range.1 hm)
  rw [e]
  exact (range_inj_perm hf hi).map B

/-! edges that are neighbours -/
def adjB (n i k : Nat) : Bool := decide ((i + 1) % n = k) || decide ((k + 1) % n = i)
theorem next_adj {n i k : Nat} (hk : k < i) (hi : i < n) : nextB n i k = adjB n i k := by
  have h1 : (k + 1) % n = k + 1 := Nat.mod_eq_of_lt (by omega)
  rw [nextB, adjB, h1, Bool.or_comm]
def okE (n i k : Nat) (r : Int) : Bool := bif adjB n i k then r != 3 else r == 0
theorem okE_comm (n i k : Nat) (r : Int) : okE n i k r = okE n k i r := by unfold okE adjB; rw [Bool.or_comm]
theorem pairs_all {l : List Pt} : pairsP l = true ↔ ∀ i, i < l.length → ∀ k, k < l.length → i ≠ k → okE l.length i k (relP (edP l i) (edP l k)) = true := by
  rw [pairs_iff]
  constructor
  · intro h i hi k hk hne
    rcases Nat.lt_or_gt_of_ne hne with q | q
    · have := h k hk i q
      rw [okS, next_adj q hk] at this
      rw [okE_comm, rel_comm]; exact this
    · have := h i hi k q
      rw [okS, next_adj q hi] at this
      exact this
  · intro h i hi k hk
    have := h i hi k (by omega) (by omega)
    rw [okS, next_adj hk hi]; exact this
theorem pairs_map {l l' : List Pt} (hn : l'.length = l.length) {f : Nat → Nat} (hf : ∀ i, i < l.length → f i < l.length) (hi : ∀ i k, i < l.length → k < l.length → f i = f k → i = k)
    (ha : ∀ i k, i < l.length → k < l.length → adjB l.length i k = adjB l.length (f i) (f k)) (hr : ∀ i k, i < l.length → k < l.length → relP (edP l' i) (edP l' k) = relP (edP l (f i)) (edP l (f k))) (h : pairsP l = true) : pairsP l' = true := by
  rw [pairs_all] at h ⊢
  intro i hi2 k hk hne
  rw [hn] at hi2 hk ⊢
  have := h (f i) (hf i hi2) (f k) (hf k hk) (fun e => hne (hi i k hi2 hk e))
  rw [okE, ← ha i k hi2 hk] at this
  rw [okE, hr i k hi2 hk]; exact this

/-! another first vertex -/
def rotP (l : List Pt) (r : Nat) : List Pt := l.drop r ++ l.take r
theorem rot_len {l : List Pt} (r : Nat) : (rotP l r).length = l.length := by simp [rotP]; omega
theorem rot_at {l : List Pt} {r j : Nat} (hr : r < l.length) (hj : j < l.length) : pA (rotP l r) j = pA l ((r + j) % l.length) := drop_take_at hr hj
theorem rot_perm (l : List Pt) (r : Nat) : (rotP l r).Perm l := by
  have : (l.drop r ++ l.take r).Perm (l.take r ++ l.drop r) := List.perm_append_comm
  rw [List.take_append_drop] at this; exact this
theorem mod_cases (x n : Nat) (h : x < 2 * n) : x % n = if x < n then x else x - n := by
  split
  · exact Nat.mod_eq_of_lt (by assumption)
  · rw [Nat.mod_eq_sub_mod (by omega), Nat.mod_eq_of_lt (by omega)]
theorem rot_lt {n r j : Nat} (h : j < n) : (r + j) % n < n := Nat.mod_lt _ (by omega)
theorem rot_inj {n r i k : Nat} (hr : r < n) (hi : i < n) (hk : k < n) (h : (r + i) % n = (r + k) % n) : i = k := by
  rw [mod_cases _ _ (by omega), mod_cases _ _ (by omega)] at h
  split at h <;> split at h <;> omega
theorem rot_next {n r j : Nat} (hr : r < n) (hj : j < n) : (r + (j + 1) % n) % n = ((r + j) % n + 1) % n := by
  have h1 : (j + 1) % n = if j + 1 < n then j + 1 else j + 1 - n := mod_cases _ _ (by omega)
  have h2 : (r + j) % n = if r + j < n then r + j else r + j - n := mod_cases _ _ (by omega)
  rw [h1, h2]
  split <;> split
  · rw [show r + (j + 1) = r + j + 1 by omega]
  · rw [show r + (j + 1) = r + j - n + 1 + n by omega, Nat.add_mod_right]
  · have : j + 1 - n = 0 := by omega
    rw [this, show r + j + 1 = r + n by omega, Nat.add_mod_right]; rfl
  · have : j + 1 - n = 0 := by omega
    rw [this, show r + j - n + 1 = r by omega]; rfl
theorem rot_ed {l : List Pt} {r j : Nat} (hr : r < l.length) (hj : j < l.length) : edP (rotP l r) j = edP l ((r + j) % l.length) := by
  unfold edP
  rw [rot_len, rot_at hr hj, rot_at hr (Nat.mod_lt _ (by omega)), rot_next hr hj]
theorem rot_adj {n r i k : Nat} (hr : r < n) (hi : i < n) (hk : k < n) : adjB n i k = adjB n ((r + i) % n) ((r + k) % n) := by
  have key : ∀ a b : Nat, a < n → b < n → decide ((a + 1) % n = b) = decide (((r + a) % n + 1) % n = (r + b) % n) := by
    intro a b ha hb
    rw [← rot_next hr ha]
    refine decide_eq_decide.2 ⟨fun e => by rw [e], fun e => rot_inj hr (Nat.mod_lt _ (by omega)) hb e⟩
  rw [adjB, adjB, key i k hi hk, key k i hk hi]
theorem rot_pairs {l : List Pt} {r : Nat} (hr : r < l.length) (h : pairsP l = true) : pairsP (rotP l r) = true :=
  pairs_map (rot_len r) (f := fun j => (r + j) % l.length) (fun i hi => rot_lt hi) (fun i k hi hk e => rot_inj hr hi hk e) (fun i k hi hk => rot_adj hr hi hk) (fun i k hi hk => by rw [rot_ed hr hi, rot_ed hr hk]) h
theorem rot_back {l : List Pt} {r : Nat} (hr : r < l.length) : ∃ q, q < l.length ∧ rotP (rotP l r) q = l := by
  rcases Nat.eq_zero_or_pos r with h0 | h0
  · subst h0
    refine ⟨0, hr, ?_⟩
    simp [rotP]
  · refine ⟨l.length - r, by omega, ?_⟩
    unfold rotP
    have e : (l.drop r).length = l.length - r := List.length_drop
    rw [← e, List.drop_left, List.take_left, List.take_append_drop]
theorem rot_simple {l : List Pt} {r : Nat} (hr : r < l.length) : pairsP (rotP l r) = pairsP l := by
  rw [Bool.eq_iff_iff]
  refine ⟨fun h => ?_, fun h => rot_pairs hr h⟩
  obtain ⟨q, h1, h2⟩ := rot_back hr
  have := rot_pairs (l := rotP l r) (r := q) (by rw [rot_len]; exact h1) h
  rw [h2] at this; exact this
theorem rot_edgs {l : List Pt} {r : Nat} (hr : r < l.length) : (edgs (rotP l r)).Perm (edgs l) := by
  unfold edgs
  rw [rot_len]
  exact perm_of_index (f := fun j => (r + j) % l.length) (fun i hi => rot_lt hi) (fun i k hi hk e => rot_inj hr hi hk e) fun i hi => rot_ed hr hi

/-! the other direction -/
def swS (s : Sg) : Sg := (s.2, s.1)
theorem onS_sw (s : Sg) (p : Pt) : onS (swS s) p = onS s p := by
  have h1 : turn s.2 s.1 p = -turn s.1 s.2 p := by unfold turn; grind
  have h2 : (turn s.2 s.1 p == 0) = (turn s.1 s.2 p == 0) := by
    rw [h1, Bool.eq_iff_iff, beq_iff_eq, beq_iff_eq]; omega
  have e1 : btw (swS s) p = btw s p := by
    unfold btw swS
    rw [Bool.eq_iff_iff]
    simp only [Bool.and_eq_true, decide_eq_true_eq]
    omega
  rw [onS, onS, e1]
  show ((turn s.2 s.1 p == 0) && _) = _
  rw [h2]
theorem ends_sw (s t : Sg) : endsP (swS s) (swS t) = endsP s t := by
  unfold endsP
  refine insP_congr fun x => ?_
  simp only [List.mem_filter, onS_sw]
  have : x ∈ [(swS s).1, (swS s).2, (swS t).1, (swS t).2] ↔ x ∈ [s.1, s.2, t.1, t.2] := by
    simp only [swS, List.mem_cons, List.not_mem_nil, or_false]
    constructor <;> rintro (h | h | h | h) <;> simp [h]
  rw [this]
theorem sgn_neg (x : Int) : sgnI (-x) = -sgnI x := by unfold sgnI; split <;> split <;> (try split) <;> (try split) <;> omega
theorem cross_sw (s t : Sg) : crossesP (swS s) (swS t) = crossesP s t := by
  have h : ∀ a b p : Pt, turn b a p = -turn a b p := fun a b p => by unfold turn; grind
  unfold crossesP
  congr 1
  · refine decide_eq_decide.2 ?_
    simp only [swS]
    rw [h s.1 s.2, h s.1 s.2, sgn_neg, sgn_neg, Int.neg_mul_neg, Int.mul_comm]
  · refine decide_eq_decide.2 ?_
    simp only [swS]
    rw [h t.1 t.2, h t.1 t.2, sgn_neg, sgn_neg, Int.neg_mul_neg, Int.mul_comm]
theorem rel_sw (s t : Sg) : relP (swS s) (swS t) = relP s t := by unfold relP; rw [ends_sw, cross_sw]
theorem rev_at {l : List Pt} {j : Nat} (hj : j < l.length) : pA l.reverse j = pA l (l.length - 1 - j) := by
  have h2 : l.length - 1 - j < l.length := by omega
  simp [pA, List.getD, List.getElem?_reverse hj]
def revF (n j : Nat) : Nat := n - 1 - (j + 1) % n
theorem rev_lt {n j : Nat} (h : j < n) : revF n j < n := by unfold revF; omega
theorem rev_inj {n i k : Nat} (hi : i < n) (hk : k < n) (h : revF n i = revF n k) : i = k := by
  unfold revF at h
  have h1 := Nat.mod_lt (i + 1) (show 0 < n by omega)
  have h2 := Nat.mod_lt (k + 1) (show 0 < n by omega)
  have e : (i + 1) % n = (k + 1) % n := by omega
  rw [mod_cases _ _ (by omega), mod_cases _ _ (by omega)] at e
  split at e <;> split at e <;> omega
theorem rev_next {n j : Nat} (h : j < n) : (revF n j + 1) % n = n - 1 - j := by
  unfold revF
  have h1 : (j + 1) % n = if j + 1 < n then j + 1 else j + 1 - n := mod_cases _ _ (by omega)
  rw [h1]
  split
  · rw [Nat.mod_eq_of_lt (by omega)]; omega
  · rw [show n - 1 - (j + 1 - n) + 1 = n by omega, Nat.mod_self]; omega
theorem rev_ed {l : List Pt} {j : Nat} (hj : j < l.length) : edP l.reverse j = swS (edP l (revF l.length j)) := by
  unfold edP swS
  rw [List.length_reverse, rev_at hj, rev_at (Nat.mod_lt _ (by omega)), rev_next hj]; rfl
theorem rev_adj {n i k : Nat} (hi : i < n) (hk : k < n) : adjB n i k = adjB n (revF n i) (revF n k) := by
  have key : ∀ a b : Nat, a < n → b < n → decide ((a + 1) % n = b) = decide ((revF n b + 1) % n = revF n a) := by
    intro a b ha hb
    rw [rev_next hb]
    refine decide_eq_decide.2 ?_
    unfold revF
    have := Nat.mod_lt (a + 1) (show 0 < n by omega)
    omega
  rw [adjB, adjB, key i k hi hk, key k i hk hi, Bool.or_comm]
theorem rev_pairs {l : List Pt} (h : pairsP l = true) : pairsP l.reverse = true :=
  pairs_map List.length_reverse (f := revF l.length) (fun i hi => rev_lt hi) (fun i k hi hk e => rev_inj hi hk e) (fun i k hi hk => rev_adj hi hk) (fun i k hi hk => by rw [rev_ed hi, rev_ed hk, rel_sw]) h
theorem rev_simple (l : List Pt) : pairsP l.reverse = pairsP l := by
  rw [Bool.eq_iff_iff]
  exact ⟨fun h => by have := rev_pairs h; rwa [List.reverse_reverse] at this, rev_pairs⟩
theorem rev_edgs (l : List Pt) : (edgs l.reverse).Perm ((edgs l).map swS) := by
  unfold edgs
  rw [List.length_reverse, List.map_map]
  exact perm_of_index (f := revF l.length) (fun i hi => rev_lt hi) (fun i k hi hk e => rev_inj hi hk e) fun i hi => rev_ed hi

/-! a move -/
def mvS (dx dy : Int) (s : Sg) : Sg := (mv dx dy s.1, mv dx dy s.2)
theorem onS_mv (dx dy : Int) (s : Sg) (p : Pt) : onS (mvS dx dy s) (mv dx dy p) = onS s p := by
  simp only [onS, mvS, turn_mv, btw]
  congr 1
  simp only [mv]
  congr 1 <;> congr 1 <;> exact decide_eq_decide.2 (by omega)
theorem ends_mv (dx dy : Int) (s t : Sg) : endsP (mvS dx dy s) (mvS dx dy t) = (endsP s t).map (mv dx dy) := by
  unfold endsP
  rw [← insP_mv]
  congr 1
  have e : [(mvS dx dy s).1, (mvS dx dy s).2, (mvS dx dy t).1, (mvS dx dy t).2] = [s.1, s.2, t.1, t.2].map (mv dx dy) := rfl
  rw [e, List.filter_map]
  congr 1
  refine List.filter_congr fun x _ => ?_
  simp only [Function.comp, onS_mv]
theorem rel_mv (dx dy : Int) (s t : Sg) : relP (mvS dx dy s) (mvS dx dy t) = relP s t := by
  unfold relP
  rw [ends_mv, List.length_map]
  have : crossesP (mvS dx dy s) (mvS dx dy t) = crossesP s t := by simp only [crossesP, mvS, turn_mv]
  rw [this]
theorem mv_at (dx dy : Int) {l : List Pt} {i : Nat} (h : i < l.length) : pA (l.map (mv dx dy)) i = mv dx dy (pA l i) := by simp [pA, List.getD, h]
theorem mv_ed (dx dy : Int) {l : List Pt} {i : Nat} (h : i < l.length) : edP (l.map (mv dx dy)) i = mvS dx dy (edP l i) := by
  unfold edP mvS
  rw [List.length_map, mv_at dx dy h, mv_at dx dy (Nat.mod_lt _ (by omega))]
theorem mv_simple (dx dy : Int) (l : List Pt) : pairsP (l.map (mv dx dy)) = pairsP l := by
  rw [Bool.eq_iff_iff, pairs_all, pairs_all, List.length_map]
  constructor
  · intro h i hi k hk hne
    have := h i hi k hk hne
    rw [mv_ed dx dy hi, mv_ed dx dy hk, rel_mv] at this; exact this
  · intro h i hi k hk hne
    rw [mv_ed dx dy hi, mv_ed dx dy hk, rel_mv]; exact h i hi k hk hne
theorem mv_edgs (dx dy : Int) (l : List Pt) : edgs (l.map (mv dx dy)) = (edgs l).map (mvS dx dy) := by
  unfold edgs
  rw [List.length_map, List.map_map]
  exact List.map_congr_left fun i hi => mv_ed dx dy (List.mem_range.1 hi)

/-! sums and searches over edges -/
theorem sumE_perm {f : Sg → Int} {a b : List Sg} (h : a.Perm b) : sumE f a = sumE f b := by
  induction h with
  | nil => rfl
  | cons x _ ih => simp only [sumE, ih]
  | swap x y l => simp only [sumE]; omega
  | trans _ _ ih1 ih2 => exact ih1.trans ih2
theorem sumE_map {f g : Sg → Int} {h : Sg → Sg} (hf : ∀ e, f (h e) = g e) : ∀ l : List Sg, sumE f (l.map h) = sumE g l
  | [] => rfl
  | e :: l => by simp only [List.map_cons, sumE, hf, sumE_map hf l]
theorem sumE_neg {f : Sg → Int} : ∀ l : List Sg, sumE (fun e => -f e) l = -sumE f l
  | [] => rfl
  | e :: l => by simp only [sumE, sumE_neg l]; omega
theorem sumN_edgs (l : List Pt) : sumN l l.length = sumE (fun e => crs e.1 e.2) (edgs l) := by
  have key : ∀ n, sumN l n = sumE (fun e => crs e.1 e.2) ((List.range n).map (edP l)) := by
    intro n
    induction n with
    | zero => rfl
    | succ n ih =>
      rw [sumN, ih, List.range_succ, List.map_append, sumE_app]
      simp only [List.map_cons, List.map_nil, sumE, edP]
      omega
  exact key _
theorem area_rot {l : List Pt} {r : Nat} (hr : r < l.length) : sumN (rotP l r) l.length = sumN l l.length := by
  have e := sumN_edgs (rotP l r)
  rw [rot_len] at e
  rw [e, sumN_edgs, sumE_perm (rot_edgs hr)]
theorem area_rev (l : List Pt) : sumN l.reverse l.length = -sumN l l.length := by
  have e := sumN_edgs l.reverse
  rw [List.length_reverse] at e
  rw [e, sumN_edgs, sumE_perm (rev_edgs l), sumE_map (g := fun e => -crs e.1 e.2) (fun e => by unfold swS crs; grind), sumE_neg]
theorem area_mv (dx dy : Int) (l : List Pt) : sumN (l.map (mv dx dy)) l.length = sumN l l.length := by
  have h1 := fan_all (l.map (mv dx dy)) (mv dx dy (0, 0))
  have h2 := fan_all l (0, 0)
  rw [List.length_map] at h1
  have : ∀ n, n ≤ l.length → fanN (l.map (mv dx dy)) (mv dx dy (0, 0)) n = fanN l (0, 0) n := by
    intro n
    induction n with
    | zero => intro _; rfl
    | succ n ih =>
      intro hn
      rw [fanN, fanN, ih (by omega), List.length_map, mv_at dx dy (by omega), mv_at dx dy (Nat.mod_lt _ (by omega)), turn_mv]
  rw [← h1, ← h2, this _ (Nat.le_refl _)]

/-! where a point is -/
def xorL : List Bool → Bool
  | [] => false
  | b :: l => b ^^ xorL l
theorem xor_perm {a b : List Bool} (h : a.Perm b) : xorL a = xorL b := by
  induction h with
  | nil => rfl
  | cons x _ ih => simp only [xorL, ih]
  | swap x y l => simp only [xorL]; cases x <;> cases y <;> cases xorL l <;> rfl
  | trans _ _ ih1 ih2 => exact ih1.trans ih2
theorem locR_eq (q : Pt) : ∀ (l : List Sg) (b : Bool), locR q l b = if l.any (fun e => onS e q) then 0 else if b ^^ xorL (l.map fun e => rayP e q) then 1 else -1
  | [], b => by simp [locR, xorL]
  | e :: l, b => by
    rw [locR, locR_eq q l]
    simp only [List.any_cons, List.map_cons, xorL]
    have hx : ((b ^^ rayP e q) ^^ xorL (l.map fun e => rayP e q)) = (b ^^ (rayP e q ^^ xorL (l.map fun e => rayP e q))) := Bool.xor_assoc _ _ _
    rw [hx]
    cases onS e q
    · simp only [Bool.false_or]; rfl
    · simp only [Bool.true_or, if_true]
theorem locR_perm (q : Pt) {a b : List Sg} (h : a.Perm b) : locR q a false = locR q b false := by
  rw [locR_eq, locR_eq, xor_perm (h.map _)]
  have : a.any (fun e => onS e q) = b.any (fun e => onS e q) := by
    rw [Bool.eq_iff_iff, List.any_eq_true, List.any_eq_true]
    exact ⟨fun ⟨x, h1, h2⟩ => ⟨x, h.mem_iff.1 h1, h2⟩, fun ⟨x, h1, h2⟩ => ⟨x, h.mem_iff.2 h1, h2⟩⟩
  rw [this]
theorem ray_sw (e : Sg) (q : Pt) : rayP (swS e) q = rayP e q := by
  unfold rayP swS
  simp only
  by_cases h1 : e.2.2 < e.1.2
  · rw [if_pos h1, if_neg (by omega)]
  · by_cases h2 : e.1.2 < e.2.2
    · rw [if_neg h1, if_pos h2]
    · rw [if_neg h1, if_neg h2]
      simp only
      have : e.1.2 = e.2.2 := by omega
      rw [Bool.eq_iff_iff]
      simp only [Bool.and_eq_true, decide_eq_true_eq]
      omega
theorem locR_sw (q : Pt) (l : List Sg) : locR q (l.map swS) false = locR q l false := by
  rw [locR_eq, locR_eq, List.map_map, List.any_map]
  have h1 : (fun e => onS e q) ∘ swS = fun e => onS e q := by funext e; exact onS_sw e q
  have h2 : (fun e => rayP e q) ∘ swS = fun e => rayP e q := by funext e; exact ray_sw e q
  rw [h1, h2]
theorem loc_rev (q : Pt) (l : List Pt) : locR q (edgs l.reverse) false = locR q (edgs l) false := by
  rw [locR_perm q (rev_edgs l), locR_sw]
theorem loc_on {q : Pt} {l : List Sg} : locR q l false = 0 ↔ ∃ e ∈ l, onS e q = true := by
  rw [locR_eq]
  cases h : l.any (fun e => onS e q) with
  | true => simp only [if_true, true_iff]; simpa using h
  | false =>
    simp only [Bool.false_eq_true, if_false]
    refine ⟨fun e => ?_, fun ⟨e, h1, h2⟩ => ?_⟩
    · split at e <;> simp at e
    · rw [List.any_eq_false] at h
      exact absurd h2 (h e h1)
theorem xor_false : ∀ {l : List Bool}, (∀ b ∈ l, b = false) → xorL l = false
  | [], _ => rfl
  | b :: l, h => by rw [xorL, h b (by simp), xor_false fun c hc => h c (by simp [hc])]; rfl
/-- A point to the right of all vertices is outside. -/
theorem loc_right {l : List Pt} {q : Pt} (h : ∀ p ∈ l, p.1 < q.1) (h0 : 0 < l.length) : locR q (edgs l) false = -1 := by
  have hm : ∀ e ∈ edgs l, e.1.1 < q.1 ∧ e.2.1 < q.1 := by
    intro e he
    obtain ⟨i, hi, rfl⟩ := List.mem_map.1 he
    have := List.mem_range.1 hi
    exact ⟨h _ (pA_mem this), h _ (pA_mem (Nat.mod_lt _ h0))⟩
  rw [locR_eq]
  have h1 : (edgs l).any (fun e => onS e q) = false := by
    rw [List.any_eq_false]
    intro e he hc
    have := hm e he
    simp only [onS, btw, Bool.and_eq_true, decide_eq_true_eq] at hc
    omega
  have h2 : xorL ((edgs l).map fun e => rayP e q) = false := by
    refine xor_false fun b hb => ?_
    obtain ⟨e, he, rfl⟩ := List.mem_map.1 hb
    have hx := hm e he
    unfold rayP
    simp only
    have key : ∀ f : Sg, f.1.1 < q.1 → f.2.1 < q.1 → (decide (f.1.2 ≤ q.2) && decide (q.2 < f.2.2) && decide (0 < turn f.1 f.2 q)) = false := by
      intro f a1 a2
      rw [Bool.eq_false_iff]
      intro hc
      simp only [Bool.and_eq_true, decide_eq_true_eq] at hc
      obtain ⟨⟨c1, c2⟩, c3⟩ := hc
      unfold turn at c3
      have m1 : 0 ≤ (f.2.2 - q.2) * (q.1 - f.1.1) := Int.mul_nonneg (by omega) (by omega)
      have m2 : 0 ≤ (q.2 - f.1.2) * (q.1 - f.2.1) := Int.mul_nonneg (by omega) (by omega)
      have : (f.2.1 - f.1.1) * (q.2 - f.1.2) - (f.2.2 - f.1.2) * (q.1 - f.1.1) = -((f.2.2 - q.2) * (q.1 - f.1.1)) - (q.2 - f.1.2) * (q.1 - f.2.1) := by grind
      omega
    split
    · exact key _ hx.2 hx.1
    · exact key _ hx.1 hx.2
  rw [h1, h2]; rfl
end Go.Pl
