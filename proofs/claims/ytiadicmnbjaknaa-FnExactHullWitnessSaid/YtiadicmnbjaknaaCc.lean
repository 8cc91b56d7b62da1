/- The library sort over an own row; from heap contracts to pure ones; cutting a body. -/
import Derived.Test.YtiadicmnbjaknaaCb
import Derived.Shelf.SlSortCmp.NoneTotal

/- The library's sort, as a call that hands a block over. -/
set_option linter.unusedVariables false
set_option linter.unusedSimpArgs false
namespace Go.Ideal
open Go Go.Sort Go.Shelf Go.Proofs Go.Lib

section
variable {α : Type} [Inhabited α]

/-- A row of cells, laid over a block. -/
theorem rowWorld (w : World) (n b off : Nat) (D : Array Value) (os : Array Obj) {cur : Array Value} {ty : TypeId} {fz : Nat × Nat} (hb : w.heap[b]? = some (.cells cur ty fz)) :
    Chg (fun x => x = b) w (grow (putRow id (Sort.ahead w n) b off D) os) ∧ (grow (putRow id (Sort.ahead w n) b off D) os).heap[b]? = some (.cells (putCells id off D cur) ty fz) := by
  have hlt : b < w.heap.size := (Array.getElem?_eq_some_iff.1 hb).1
  have hh : ∀ i, (putRow id (Sort.ahead w n) b off D).heap[i]? = if b = i then (w.heap[i]?).map (onCells (putCells id off D)) else w.heap[i]? := by
    intro i
    simp only [putRow, mapBlock, Sort.ahead, Array.getElem?_modify]
  have hs : (putRow id (Sort.ahead w n) b off D).heap.size = w.heap.size := by simp [putRow, mapBlock, Sort.ahead]
  have hg : ∀ i, i < w.heap.size → (grow (putRow id (Sort.ahead w n) b off D) os).heap[i]? = (putRow id (Sort.ahead w n) b off D).heap[i]? := by
    intro i hi
    simp only [grow]
    rw [Array.getElem?_append_left (by rw [hs]; exact hi)]
  refine ⟨⟨rfl, rfl, rfl, by rw [size_grow, hs]; omega, fun i hi hne => ?_, Nat.le_add_right _ _⟩, ?_⟩
  · rw [hg i hi, hh i, if_neg (fun e => hne e.symm)]
  · rw [hg b hlt, hh b, if_pos rfl, hb]
    rfl

/-- How the elements of a row stand for values. -/
structure Enc (k : Nat) (f : α → IV) (e : α → Value) : Prop where
  rep : ∀ c x v, RepV c (f x) v ↔ v = e x
  ok : ∀ x, EltOk k (e x)
  no : ∀ x, noId (f x)

theorem noIds_ment {l : List IV} (h : idsL l = []) (id : Nat) : IV.mentL id l = false := by
  cases hm : IV.mentL id l with
  | false => rfl
  | true => have := mem_idsL l hm; rw [h] at this; simp at this

/-- The cells of an element. -/
def cellsOf (e : α → Value) (x : α) : List Value := (e x).cells.toList

/-- What is known of a sort. -/
def SortC (P : Program) (fn : FuncId) (k : Nat) (e : α → Value) (cf : α → α → Int) : Prop :=
  (∀ (p : Option Addr) (cap : Nat) (fv : Value) (w : World), Calls P fn #[.slice p 0 cap, fv] w fun r w' => r = .returned (.tuple #[]) ∧ w' = w) ∧
  ∀ (g : Nat) (cb : Array Value) (blk off cap : Nat) (d : Array α) (w : World), Enters P g →
    (∀ (m : Nat) (os : Array Obj) (dk : Array α), dk.size = d.size → ∀ x y : α,
      Calls P g (#[e x, e y] ++ cb) (grow (putRow id (Sort.ahead w m) blk off (flatK (cellsOf e) k dk)) os) fun r w' => r = .returned (.int .i64 (cf x y)) ∧ ∃ q os', w' = grow ((grow (putRow id (Sort.ahead w m) blk off (flatK (cellsOf e) k dk)) os).drewN q) os') →
    Holds id w blk off (flatK (cellsOf e) k d) → blk < w.heap.size → d.size < 4611686018427387904 →
    Calls P fn #[.slice (some ⟨blk, off, none⟩) d.size cap, .func (.func g) #[] cb] w fun r w' =>
      r = .returned (.tuple #[]) ∧ ∃ n os, w' = grow (putRow id (Sort.ahead w n) blk off (flatK (cellsOf e) k (d.toList.mergeSort fun x y => !(ltOf cf) y x).toArray)) os

theorem flat_one (e : α → Value) (h1 : OneCell e) (d : Array α) : flatK (cellsOf e) 1 d = d.map e := by
  have hc : ∀ x, cellsOf e x = [e x] := by
    intro x
    have := h1 x
    unfold cellsOf
    cases hx : e x <;> rw [hx] at this <;> first | rfl | (simp [Value.oneCell'] at this)
  apply Array.ext
  · simp
  · intro i h1 h2
    have hi : i < d.size := by simpa using h2
    simp [flatK, hc, hi, Nat.mod_one]
theorem putRow_one (e : α → Value) (w : World) (b off : Nat) (d : Array α) : putRow e w b off d = putRow id w b off (d.map e) := by
  unfold putRow
  congr 1
  funext c
  unfold putCells
  congr 1
  funext q x
  simp only [Array.size_map]
  split
  · rename_i h
    have hi : q - off < d.size := by omega
    simp [hi]
  · rfl
theorem holds_one (e : α → Value) (w : World) (b off : Nat) (d : Array α) : Holds e w b off d ↔ Holds id w b off (d.map e) := by
  unfold Holds
  simp only [Array.size_map]
  constructor
  · intro h j hj
    have := h j hj
    simpa [hj] using this
  · intro h j hj
    have := h j hj
    simpa [hj] using this

theorem sortC_one {P : Program} {ρ : Ren} (L : SlLaysF.n6 P ρ) (e : α → Value) (h1 : OneCell e) (cf : α → α → Int) (hO : SWO (ltOf cf)) (hT : ∀ x y, (ltOf cf) x y = false → (ltOf cf) y x = false → x = y) : SortC P (ρ.f 6) 1 e cf := by
  refine ⟨fun p cap fv w => AnyF.slices_SortFunc_none { L with } p cap fv w, ?_⟩
  intro g cb blk off cap d w eg hc hH hb hs
  refine (Any.slices_SortFunc_total L e h1 cf hO g cb blk off cap d w eg ?_ ?_ hb hs hT).mono ?_
  · intro m os dk hd x y
    have := hc m os dk hd x y
    rw [flat_one e h1] at this
    unfold sortWorld
    rw [putRow_one]
    exact this
  · rw [holds_one, ← flat_one e h1]; exact hH
  · rintro r w' ⟨rfl, n, os, rfl⟩
    refine ⟨rfl, n, os, ?_⟩
    rw [flat_one e h1]
    unfold sortWorld
    rw [putRow_one]

theorem sortC_many {P : Program} {ρ : Ren} (L : SlLaysF0.n6 P ρ) {k : Nat} (hk : 2 ≤ k) (aE : ∀ w, (isAgg (ρ.t 24)).run P w = .ok true w) (zE : ∀ w, (Go.sizeOf (ρ.t 24)).run P w = .ok k w) (e : α → Value) (he : ∀ x, EltOk k (e x)) (cf : α → α → Int) (hO : SWO (ltOf cf))
    (hT : ∀ x y, (ltOf cf) x y = false → (ltOf cf) y x = false → x = y) : SortC P (ρ.f 6) k e cf := by
  refine ⟨fun p cap fv w => AnyF.slices_SortFunc_none L p cap fv w, ?_⟩
  intro g cb blk off cap d w eg hc hH hb hs
  have hag : ∀ x, Value.agg (cellsOf e x).toArray = e x := by
    intro x
    obtain ⟨_, _, h3, _⟩ := he x
    unfold cellsOf
    cases hx : e x with
    | agg cs => simp [Value.cells]
    | _ => rw [hx] at h3; simp [isAggV] at h3; omega
  refine (AnyQ.slices_SortFunc_total L k aE zE (cellsOf e) (fun x => by have := (he x).1; simpa [cellsOf] using this) (fun x v hv => (he x).2.1 v hv) cf hO g cb blk off cap d w eg ?_ hH hb hs hT).mono ?_
  · intro m os dk hd x y
    have := hc m os dk hd x y
    rw [hag, hag]
    exact this
  · rintro r w' ⟨rfl, n, os, rfl⟩
    exact ⟨rfl, n, os, rfl⟩

theorem frozen_plain {w : World} {b j : Nat} {cur : Array Value} {ty : TypeId} (h : w.heap[b]? = some (.cells cur ty (0, 0))) : w.frozen? ⟨b, j, none⟩ = false := by
  simp [World.frozen?, h]

omit [Inhabited α] in
/-- A pure contract, where a sort calls it. -/
theorem cmp_call {P : Program} {F : Fr} {μ κ : Nat → Nat} {hp : List (Nat × Option IBlk)} (RH : RepH F μ κ hp F.w0) {g : Nat} {f : α → IV} {e : α → Value} {k : Nat} (he : Enc k f e) {caps : List IV} (hcap : idsL caps = []) {cs : List Value} (hcs : RepL (ctx F μ κ hp F.w0) caps cs)
    {cf : α → α → Int} (hcmp : ∀ x y, ICall P g ([f x, f y] ++ caps) (.num .i64 (cf x y))) {W : World} (hW : Chg (fun x => x = μ 1000) F.w0 W) (hav : avOf F μ hp (μ 1000)) (x y : α) :
    Calls P g ⟨[e x, e y] ++ cs⟩ W fun r w' => r = .returned (.int .i64 (cf x y)) ∧ ∃ q os', w' = grow (W.drewN q) os' := by
  have hlt : ∀ b, avOf F μ hp b → b < W.heap.size := by
    rintro b (h | ⟨i, hi, rfl⟩)
    · exact Nat.lt_of_lt_of_le (F.hA b h) hW.size
    · cases hb : lkH hp i with
      | none => exact absurd hb hi
      | some blk => exact Nat.lt_of_lt_of_le (RH.lt hb) hW.size
  have L : (ctx F μ κ hp F.w0).Le (bare (avOf F μ hp) W) (fun _ => False) :=
    ⟨fun _ h => h.elim, fun b _ h => h, hW.size, fun b o hb hn => World.cell?_of_block (hW.block b hb (fun h => hn (h ▸ hav)))⟩
  have hargs : RepL (bare (avOf F μ hp) W) ([f x, f y] ++ caps) ([e x, e y] ++ cs) := by
    have h1 : RepL (bare (avOf F μ hp) W) [f x, f y] [e x, e y] := by
      simp only [RepL]
      exact ⟨_, _, rfl, (he.rep _ _ _).2 rfl, _, _, rfl, (he.rep _ _ _).2 rfl, rfl⟩
    exact h1.append (RepL.mono L caps cs (fun id h => by rw [noIds_ment hcap id] at h; cases h) hcs)
  refine (hcmp x y (avOf F μ hp) W _ hlt hargs).mono ?_
  rintro r w' ⟨v, rfl, hc, hv⟩
  simp only [RepV] at hv
  subst hv
  refine ⟨rfl, w'.drawn - W.drawn, w'.heap.extract W.heap.size w'.heap.size, ?_⟩
  have h1 : w'.heap = W.heap ++ w'.heap.extract W.heap.size w'.heap.size := by
    apply Array.ext_getElem?
    intro i
    by_cases hi : i < W.heap.size
    · rw [Array.getElem?_append_left hi, hc.block i hi (fun h => h)]
    · rw [Array.getElem?_append_right (by omega)]
      by_cases hj : i < w'.heap.size
      · rw [Array.getElem?_extract]
        have hsz := hc.size
        rw [if_pos (by omega)]
        congr 1
        omega
      · rw [Array.getElem?_eq_none (by omega), Array.getElem?_eq_none (by simp; omega)]
  have h2 : W.drawn + (w'.drawn - W.drawn) = w'.drawn := by have : W.drawn ≤ w'.drawn := hc.drawn; omega
  cases w' with
  | mk heap tape drawn os output =>
    have t1 := hc.tape
    have t2 := hc.os
    have t3 := hc.output
    simp only at t1 t2 t3 h1 h2
    simp only [grow, World.drewN]
    rw [h2, t1, t2, t3, ← h1]

theorem lk1 {b : IBlk} {i : Nat} : lkH [(1000, some b)] i = if 1000 = i then some b else none := by simp [lkH]

theorem getD_mid {β : Type} {A B C : List β} {d : β} {i : Nat} : (A ++ B ++ C).getD i d = if i < A.length then A.getD i d else if i < A.length + B.length then B.getD (i - A.length) d else C.getD (i - A.length - B.length) d := by
  simp only [List.getD_eq_getElem?_getD, List.append_assoc]
  by_cases h1 : i < A.length
  · rw [if_pos h1, List.getElem?_append_left h1]
  · rw [if_neg h1, List.getElem?_append_right (by omega)]
    by_cases h2 : i < A.length + B.length
    · rw [if_pos h2, List.getElem?_append_left (by omega)]
    · rw [if_neg h2, List.getElem?_append_right (by omega)]

/-- A part of an own row is sorted. -/
theorem sort_hcall {P : Program} {fn g : FuncId} {k : Nat} {f : α → IV} {e : α → Value} {cf : α → α → Int} (hS : SortC P fn k e cf) (he : Enc k f e) (hk : 1 ≤ k) (hg : Enters P g) {caps : List IV} (hcap : idsL caps = [])
    (hcmp : ∀ x y, ICall P g ([f x, f y] ++ caps) (.num .i64 (cf x y))) (l : List α) (off n : Nat) (full : Bool) (hn : off + n ≤ l.length) (hsz : l.length < 4611686018427387904) (ty : TypeId) :
    HCall P fn [.ref 1000 off n full, .clo g caps] [(1000, some (.arr k ty (l.map f)))] (.tup [])
      [(1000, some (.arr k ty ((l.take off ++ ((l.drop off).take n).mergeSort (fun x y => !(ltOf cf) y x) ++ l.drop (off + n)).map f)))] := by
  intro F μ κ vs RH hL
  obtain ⟨⟨cur, h1, h2, h3, h4, h5, h6, h7⟩, hA, hB⟩ := RH.own 1000 _ (by simp [lkH]; rfl)
  have hsh : (ctx F μ κ [(1000, some (IBlk.arr k ty (l.map f)))] F.w0).sh 1000 = some k := by simp [ctx, lkH, IBlk.shape]
  simp only [RepL] at hL
  obtain ⟨v1, r1, rfl, hv1, v2, r2, rfl, hv2, rfl⟩ := hL
  simp only [RepV] at hv1 hv2
  obtain ⟨a, cp, rfl, han, ha⟩ := hv1
  obtain ⟨hncp, hoff, _, haddr⟩ := ha k h4 hsh
  obtain ⟨cs, rfl, hcs⟩ := hv2
  rcases Nat.eq_zero_or_pos n with rfl | hpos
  · refine (hS.1 a cp _ F.w0).mono ?_
    rintro r w' ⟨rfl, rfl⟩
    refine ⟨.tuple #[], μ, κ, rfl, ?_, by simp only [RepV, RepL]; exact ⟨_, rfl, rfl⟩⟩
    have : l.take off ++ ((l.drop off).take 0).mergeSort (fun x y => !(ltOf cf) y x) ++ l.drop (off + 0) = l := by simp
    rw [this]
    exact RH
  · have hlt : μ 1000 < F.w0.heap.size := (Array.getElem?_eq_some_iff.1 h1).1
    have ea := haddr (.inl hpos)
    subst ea
    have hav : avOf F μ [(1000, some (IBlk.arr k ty (l.map f)))] (μ 1000) := .inr ⟨1000, by simp [lkH], rfl⟩
    let d : List α := (l.drop off).take n
    have hdl : d.length = n := by simp [d]; omega
    let d' : List α := d.mergeSort (fun x y => !(ltOf cf) y x)
    have hdl' : d'.length = n := by simp [d', hdl]
    have hdget : ∀ i, i < n → d.toArray[i]! = l.getD (off + i) default := by
      intro i hi
      have h0 : off + i < l.length := by omega
      have : i < d.length := by omega
      simp [d, List.getD, hi, h0, List.getElem?_take, List.getElem?_drop]
    have hcellsz : ∀ x, (e x).cells.size = k := fun x => (he.ok x).1
    have hflat : ∀ (D : Array α) t, t < D.size * k → (flatK (cellsOf e) k D)[t]! = (e D[t / k]!).cells[t % k]! := by
      intro D t ht
      rw [get_flatK _ _ _ _ ht]
      unfold cellsOf
      generalize (e D[t / k]!).cells = A
      cases A
      simp
    have hold : ∀ i j, i < l.length → j < k → F.w0.cell? ⟨μ 1000, i * k + j, none⟩ = (e (l.getD i default)).cells[j]? := by
      intro i j hi hj
      obtain ⟨x, hx, hko, hc⟩ := h7.get i (by simpa using hi)
      rw [getD_map (d := default) hi, he.rep] at hx
      subst hx
      have := hc j hj
      rwa [Nat.zero_add] at this
    have hdm : ∀ t, t < n * k → t / k < n ∧ t % k < k ∧ off * k + t = (off + t / k) * k + t % k := by
      intro t ht
      refine ⟨(Nat.div_lt_iff_lt_mul (by omega)).2 ht, Nat.mod_lt _ (by omega), ?_⟩
      have := Nat.div_add_mod t k
      rw [Nat.add_mul, Nat.mul_comm (t / k) k]
      omega
    have hHolds : Holds id F.w0 (μ 1000) (off * k) (flatK (cellsOf e) k d.toArray) := by
      intro t ht
      simp only [size_flatK, List.size_toArray, hdl] at ht
      obtain ⟨q1, q2, q3⟩ := hdm t ht
      refine ⟨?_, frozen_plain h1⟩
      rw [q3, hold _ _ (by omega) q2, hflat _ _ (by simpa [hdl] using ht), hdget _ q1]
      have : t % k < (e (l.getD (off + t / k) default)).cells.size := by rw [hcellsz]; exact q2
      revert this
      generalize (e (l.getD (off + t / k) default)).cells = A
      intro this
      simp [this]
    have hd0 : d.toArray.size = n := by simp [hdl]
    have hcall := hS.2 g ⟨cs⟩ (μ 1000) (off * k) cp d.toArray F.w0 hg (fun m os dk hdk x y => ?_) hHolds hlt (by rw [hd0]; omega)
    · rw [hd0] at hcall
      refine hcall.mono ?_
      rintro r w' ⟨rfl, m, os, rfl⟩
      obtain ⟨hchg, hheap⟩ := rowWorld F.w0 m (μ 1000) (off * k) (flatK (cellsOf e) k d'.toArray) os h1
      refine ⟨.tuple #[], μ, κ, rfl, ?_, by simp only [RepV, RepL]; exact ⟨_, rfl, rfl⟩⟩
      refine ⟨hchg.mono (fun x hx ex => ?_), fun i j hi hj _ => ?_, fun i b hb => ?_, RH.pin⟩
      · subst ex
        rcases hB with h | h
        · exact h
        · omega
      · rw [lk1] at hi hj
        split at hi <;> split at hj <;> simp_all
      · rw [lk1] at hb
        split at hb
        · rename_i hi
          subst hi
          injection hb with hb
          subst hb
          refine ⟨⟨_, hheap, by have := h2; simp only [putCells, Array.size_mapIdx]; exact this, h3, h4, ?_, ?_, ?_⟩, hA, hB⟩
          · simp only [List.length_map, List.length_append, List.length_take, List.length_drop, List.length_mergeSort] at h5 ⊢
            show _ ≤ κ 1000
            have : l.length ≤ κ 1000 := h5
            omega
          · exact noIdL_of fun x hx => by obtain ⟨y, _, rfl⟩ := List.mem_map.1 hx; exact he.no y
          · refine RepR_of fun i hi => ?_
            have hil2 : i < (l.take off ++ d' ++ l.drop (off + n)).length := by
              have h0 := hi
              rw [List.length_map] at h0
              exact h0
            have hil : i < l.length := by
              simp only [List.length_map, List.length_append, List.length_take, List.length_drop, List.length_mergeSort] at hi
              omega
            refine ⟨e ((l.take off ++ d' ++ l.drop (off + n)).getD i default), ?_, he.ok _, fun j hj => ?_⟩
            · rw [getD_map (d := default) hil2, he.rep]
            · rw [Nat.zero_add]
              refine (cell_of_row _ _ _ _ _ _ hheap).trans ?_
              have hidx : (off * k ≤ i * k + j ∧ i * k + j < off * k + n * k) ↔ (off ≤ i ∧ i < off + n) := by
                rw [← Nat.add_mul]
                constructor
                · rintro ⟨a1, a2⟩
                  constructor
                  · apply Classical.byContradiction
                    intro hh
                    have : (i + 1) * k ≤ off * k := Nat.mul_le_mul_right _ (by omega)
                    rw [Nat.add_mul, Nat.one_mul] at this
                    omega
                  · apply Classical.byContradiction
                    intro hh
                    have : (off + n) * k ≤ i * k := Nat.mul_le_mul_right _ (by omega)
                    omega
                · rintro ⟨a1, a2⟩
                  have b1 : off * k ≤ i * k := Nat.mul_le_mul_right _ a1
                  have b2 : (i + 1) * k ≤ (off + n) * k := Nat.mul_le_mul_right _ (by omega)
                  rw [Nat.add_mul, Nat.one_mul] at b2
                  omega
              simp only [putCells, Array.getElem?_mapIdx, size_flatK, List.size_toArray, hdl', hidx]
              have hcur : cur[i * k + j]? = (e (l.getD i default)).cells[j]? := by
                rw [← cell_of_row _ _ _ _ _ _ h1]; exact hold i j hil hj
              have hlo : (l.take off).length = off := by simp; omega
              rw [getD_mid, hlo, hdl']
              by_cases c1 : i < off
              · rw [if_pos c1, hcur]
                have : (l.take off).getD i default = l.getD i default := by simp [List.getD, List.getElem?_take, c1]
                rw [this]
                have hj' : j < (e (l.getD i default)).cells.size := by rw [hcellsz]; exact hj
                simp [hj', show ¬ (off ≤ i ∧ i < off + n) by omega]
              · rw [if_neg c1]
                by_cases c2 : i < off + n
                · rw [if_pos c2, hcur]
                  have hj' : j < (e (l.getD i default)).cells.size := by rw [hcellsz]; exact hj
                  rw [Array.getElem?_eq_getElem hj']
                  simp only [Option.map_some, show (off ≤ i ∧ i < off + n) from ⟨by omega, c2⟩, and_self, if_true, id]
                  have ht : i * k + j - off * k = (i - off) * k + j := by
                    rw [Nat.sub_mul]
                    have : off * k ≤ i * k := Nat.mul_le_mul_right _ (by omega)
                    omega
                  have ht2 : (i - off) * k + j < n * k := by
                    have : (i - off + 1) * k ≤ n * k := Nat.mul_le_mul_right _ (by omega)
                    rw [Nat.add_mul, Nat.one_mul] at this
                    omega
                  have e1 : ((i - off) * k + j) / k = i - off := by
                    rw [Nat.mul_comm, Nat.mul_add_div (by omega), Nat.div_eq_of_lt hj, Nat.add_zero]
                  have e2 : ((i - off) * k + j) % k = j := by rw [Nat.mul_comm, Nat.mul_add_mod, Nat.mod_eq_of_lt hj]
                  rw [ht, hflat _ _ (by simpa [hdl'] using ht2), e1, e2]
                  have hdi : i - off < d'.length := by omega
                  have e3 : d'.toArray[i - off]! = d'.getD (i - off) default := by simp [List.getD, hdi]
                  rw [e3]
                  have hj2 : j < (e (d'.getD (i - off) default)).cells.size := by rw [hcellsz]; exact hj
                  revert hj2
                  generalize (e (d'.getD (i - off) default)).cells = A
                  intro hj2
                  simp [hj2]
                · rw [if_neg c2, hcur]
                  have : (l.drop (off + n)).getD (i - off - n) default = l.getD i default := by
                    simp only [List.getD, List.getElem?_drop]
                    congr 2
                    omega
                  rw [this]
                  have hj' : j < (e (l.getD i default)).cells.size := by rw [hcellsz]; exact hj
                  simp [hj', show ¬ (off ≤ i ∧ i < off + n) by omega]
        · cases hb
    · obtain ⟨hchg, _⟩ := rowWorld F.w0 m (μ 1000) (off * k) (flatK (cellsOf e) k dk) os h1
      have := cmp_call RH he hcap hcs hcmp hchg hav x y
      simpa using this

end
end Go.Ideal

/- A heap call that gets no blocks and whose result can be given up is a pure one; sorts of nothing. -/
set_option linter.unusedVariables false
set_option linter.unusedSimpArgs false
namespace Go.Ideal
open Go Go.Sort Go.Shelf Go.Proofs Go.Lib

theorem icall_of_hcall {P : Program} {f : FuncId} {args : List IV} {v v' : IV} {hp' : List (Nat × Option IBlk)} (ρ : Nat → Nat) (h : HCall P f args [] v hp') (hc : SLe0 ρ ⟨[(0, v)], hp'⟩ ⟨[(0, v')], []⟩) (hno : idsV v' = []) : ICall P f args v' := by
  intro A w vs hA hL
  let F : Fr := { A := A, B0 := fun _ => False, w0 := w, N := 0, hAB := fun _ _ h => h, hA := hA, hB := fun _ h => h.elim, μ0 := fun i => i, κ0 := fun i => i, hN := Nat.zero_le _ }
  have RH : RepH F (fun i => i) (fun i => i) [] F.w0 := ⟨Chg.refl _ _, fun i j hi => absurd rfl hi, fun id b hb => by simp [lkH] at hb, fun _ _ _ => ⟨rfl, rfl⟩⟩
  have hctx : ∀ μ κ W, (bare A W).Le (ctx F μ κ [] W) (fun _ => True) := fun μ κ W => ⟨fun id _ => .inl rfl, fun b _ hb => by
      rcases hb with hb | ⟨i, hi, _⟩
      · exact hb
      · exact absurd rfl hi, Nat.le_refl _, fun _ _ _ _ => rfl⟩
  have hL' : RepL (ctx F (fun i => i) (fun i => i) [] F.w0) args vs := RepL.mono (hctx _ _ w) args vs (fun _ _ => trivial) hL
  refine (h F _ _ vs RH hL').mono ?_
  rintro e w' ⟨x, μ', κ', rfl, RH', hv⟩
  have h1 := conv_rep (s := ⟨[(0, v)], hp'⟩) (s' := ⟨[(0, v')], []⟩) RH' hc v v' x (by simpa [lkT] using convTm_lk hc.1 0) hv
  refine ⟨x, rfl, RH'.chg, ?_⟩
  have L : (ctx F (fun i => μ' (ρ i)) (fun i => κ' (ρ i)) [] w').Le (bare A w') (fun _ => False) := ⟨fun _ h => h.elim, fun b _ hb => .inl hb, Nat.le_refl _, fun _ _ _ _ => rfl⟩
  refine RepV.mono L v' x (fun id hid => ?_) h1
  have := mem_ids v' hid
  rw [hno] at this
  simp at this
theorem icallW_of_hcall {I : World → Prop} {P : Program} {f : FuncId} {args : List IV} {v v' : IV} {hp' : List (Nat × Option IBlk)} (ρ : Nat → Nat) (h : HCallW I P f args [] v hp') (hc : SLe0 ρ ⟨[(0, v)], hp'⟩ ⟨[(0, v')], []⟩) (hno : idsV v' = []) : ICallW I P f args v' := by
  intro A w vs hw hA hL
  let F : Fr := { A := A, B0 := fun _ => False, w0 := w, N := 0, hAB := fun _ _ h => h, hA := hA, hB := fun _ h => h.elim, μ0 := fun i => i, κ0 := fun i => i, hN := Nat.zero_le _ }
  have RH : RepH F (fun i => i) (fun i => i) [] F.w0 := ⟨Chg.refl _ _, fun i j hi => absurd rfl hi, fun id b hb => by simp [lkH] at hb, fun _ _ _ => ⟨rfl, rfl⟩⟩
  have hctx : ∀ μ κ W, (bare A W).Le (ctx F μ κ [] W) (fun _ => True) := fun μ κ W => ⟨fun id _ => .inl rfl, fun b _ hb => by
      rcases hb with hb | ⟨i, hi, _⟩
      · exact hb
      · exact absurd rfl hi, Nat.le_refl _, fun _ _ _ _ => rfl⟩
  have hL' : RepL (ctx F (fun i => i) (fun i => i) [] F.w0) args vs := RepL.mono (hctx _ _ w) args vs (fun _ _ => trivial) hL
  refine (h F _ _ vs hw rfl RH hL').mono ?_
  rintro e w' ⟨x, μ', κ', rfl, RH', hv⟩
  have h1 := conv_rep (s := ⟨[(0, v)], hp'⟩) (s' := ⟨[(0, v')], []⟩) RH' hc v v' x (by simpa [lkT] using convTm_lk hc.1 0) hv
  refine ⟨x, rfl, RH'.chg, ?_⟩
  have L : (ctx F (fun i => μ' (ρ i)) (fun i => κ' (ρ i)) [] w').Le (bare A w') (fun _ => False) := ⟨fun _ h => h.elim, fun b _ hb => .inl hb, Nat.le_refl _, fun _ _ _ _ => rfl⟩
  refine RepV.mono L v' x (fun id hid => ?_) h1
  have := mem_ids v' hid
  rw [hno] at this
  simp at this

theorem flat_blk {c c' : Ctx} (W : WLe c c' (fun _ => True)) (hw : c'.w = c.w) (hμ : c'.μ = c.μ) (hκ : c'.κ = c.κ) {hp : List (Nat × IBlk)} (hf : flatBs hp = true) {id : Nat} {b : IBlk} (hb : lkH (sm hp) id = some b) (h : RepB c id b) : RepB c' id b := by
  have hfb := flatBs_mem hf id b hb
  cases b with
  | box ty cells =>
    obtain ⟨cs, q1, q2, q3⟩ := h
    exact ⟨cs, by rw [hw, hμ]; exact q1, noSlL_any W cells cs hfb (fun _ _ => trivial) q2, q3⟩
  | arr k ty es =>
    obtain ⟨cur, q1, q2, q3, q4, q5, q6, q7⟩ := h
    refine ⟨cur, by rw [hw, hμ]; exact q1, by rw [hκ]; exact q2, by rw [hκ]; exact q3, q4, by rw [hκ]; exact q5, q6, ?_⟩
    obtain ⟨xs, hX, hcl⟩ := q7.toX
    rw [hμ]
    exact (noSlX_any W es xs hfb (fun _ _ => trivial) hX).toR (by rw [hw]; exact hcl)

/-- The same for a result that lies in new memory. -/
theorem icallF_of_hcall {P : Program} {f : FuncId} {args : List IV} {v v' : IV} {hp' : List (Nat × IBlk)} (ρ : Nat → Nat) (h : HCall P f args [] v (sm hp')) (hc : SLe0 ρ ⟨[(0, v)], sm hp'⟩ ⟨[(0, v')], []⟩) (hno : idsV v' = []) (hns : noSl v = true) (hfb : flatBs hp' = true) : ICallF P f args v' := by
  intro A w vs hA hL
  let F : Fr := { A := A, B0 := fun _ => False, w0 := w, N := 0, hAB := fun _ _ h => h, hA := hA, hB := fun _ h => h.elim, μ0 := fun i => i, κ0 := fun i => i, hN := Nat.zero_le _ }
  let F2 : Fr := { A := fun b => b < w.heap.size, B0 := fun _ => False, w0 := w, N := 0, hAB := fun _ _ h => h, hA := fun _ h => h, hB := fun _ h => h.elim, μ0 := fun i => i, κ0 := fun i => i, hN := Nat.zero_le _ }
  have RH : RepH F (fun i => i) (fun i => i) [] F.w0 := ⟨Chg.refl _ _, fun i j hi => absurd rfl hi, fun id b hb => by simp [lkH] at hb, fun _ _ _ => ⟨rfl, rfl⟩⟩
  have hctx : ∀ μ κ W, (bare A W).Le (ctx F μ κ [] W) (fun _ => True) := fun μ κ W => ⟨fun id _ => .inl rfl, fun b _ hb => by
      rcases hb with hb | ⟨i, hi, _⟩
      · exact hb
      · exact absurd rfl hi, Nat.le_refl _, fun _ _ _ _ => rfl⟩
  have hL' : RepL (ctx F (fun i => i) (fun i => i) [] F.w0) args vs := RepL.mono (hctx _ _ w) args vs (fun _ _ => trivial) hL
  refine (h F _ _ vs RH hL').mono ?_
  rintro e w' ⟨x, μ', κ', rfl, RH', hv⟩
  have W1 : WLe (ctx F μ' κ' (sm hp') w') (ctx F2 μ' κ' (sm hp') w') (fun _ => True) := fun id _ => .inr ⟨rfl, rfl, rfl⟩
  have RH2 : RepH F2 μ' κ' (sm hp') w' := by
    refine ⟨RH'.chg, RH'.inj, fun id blk hb => ?_, RH'.pin⟩
    obtain ⟨h1, h2, h3⟩ := RH'.own id blk hb
    rcases h3 with h3 | h3
    · exact h3.elim
    · refine ⟨flat_blk W1 rfl rfl rfl hfb hb h1, fun hlt => ?_, .inr h3⟩
      exact Nat.lt_irrefl _ (Nat.lt_of_lt_of_le hlt h3)
  have hv2 : RepV (ctx F2 μ' κ' (sm hp') w') v x := noSl_any W1 v x hns (fun _ _ => trivial) hv
  have h1 := conv_rep (s := ⟨[(0, v)], sm hp'⟩) (s' := ⟨[(0, v')], []⟩) RH2 hc v v' x (by simpa [lkT] using convTm_lk hc.1 0) hv2
  refine ⟨x, rfl, RH2.chg, ?_⟩
  have L : (ctx F2 (fun i => μ' (ρ i)) (fun i => κ' (ρ i)) [] w').Le (bare (fun b => b < w.heap.size) w') (fun _ => False) := ⟨fun _ h => h.elim, fun b _ hb => .inl hb, Nat.le_refl _, fun _ _ _ _ => rfl⟩
  refine RepV.mono L v' x (fun id hid => ?_) h1
  have := mem_ids v' hid
  rw [hno] at this
  simp at this

/-- A sort of nothing. -/
theorem icall_sort_none {α : Type} {k : Nat} {e : α → Value} [Inhabited α] {cf : α → α → Int} {P : Program} {fn : FuncId} (hS : SortC P fn k e cf) (x : IV) (k' : Nat) : ICall P fn [.sl k' [], x] (.tup []) := by
  intro A w vs hA hL
  simp only [RepL] at hL
  obtain ⟨v1, r1, rfl, hv1, v2, r2, rfl, hv2, rfl⟩ := hL
  simp only [RepV] at hv1
  obtain ⟨a, n, cp, rfl, hn, _⟩ := hv1
  subst hn
  refine (hS.1 a cp v2 w).mono ?_
  rintro r w' ⟨rfl, rfl⟩
  exact ⟨.tuple #[], rfl, Chg.refl _ _, by simp only [RepV, RepL]; exact ⟨_, rfl, rfl⟩⟩

end Go.Ideal

/- A body cut after so many statements: there the state may be weakened. -/
set_option linter.unusedVariables false
set_option linter.unusedSimpArgs false
namespace Go.Ideal
open Go

def frontN : Nat → Code → Code
  | 0, _ => .skip
  | n + 1, .seq x y => .seq x (frontN n y)
  | _ + 1, _ => .skip
def restN : Nat → Code → Code
  | 0, c => c
  | n + 1, .seq _ y => restN n y
  | _ + 1, c => c

theorem front0 {c : Code} : frontN 0 c = .skip := by cases c <;> rfl
theorem frontS {n : Nat} {x y : Code} : frontN (n + 1) (.seq x y) = .seq x (frontN n y) := rfl
theorem rest0 {c : Code} : restN 0 c = c := by cases c <;> rfl
theorem restS {n : Nat} {x y : Code} : restN (n + 1) (.seq x y) = restN n y := rfl

theorem stat_front {D : List (Nat × List (Nat × Nat))} : ∀ (n : Nat) (c : Code), statC D c = true → statC D (frontN n c) = true
  | 0, c, _ => by rw [front0]; rfl
  | n + 1, .seq x y, h => by
    simp only [statC, Bool.and_eq_true] at h
    rw [frontS]
    simp only [statC, Bool.and_eq_true]
    exact ⟨h.1, stat_front n y h.2⟩
  | n + 1, .skip, _ | n + 1, .ret, _ | n + 1, .exit _, _ | n + 1, .block _ _, _ | n + 1, .cond _ _ _, _ | n + 1, .loop _, _ | n + 1, .region _ _ _, _ => rfl
  | n + 1, c, h => by cases c <;> first | rfl | (simp only [statC, Bool.and_eq_true] at h; rw [frontS]; simp only [statC, Bool.and_eq_true]; exact ⟨h.1, stat_front n _ h.2⟩)

section
variable {P : Program} {T : Nat → TD} {G : List (Nat × PSpec)} {H : List (Nat × HSpec)} {D : List (Nat × List (Nat × Nat))} {F : Fr}

theorem vc_cut (hT : TOK P T) (hm : P.follows .mixedOrders = true) (hG : GOKF P F G) (hH : HOK P H) : ∀ (n : Nat) (c : Code) (s : ISt) (Q : Exit → ISt → Prop), statC D c = true →
    vc P F T G H D (frontN n c) s (seqK (fun s' => IWp P F (restN n c) s' Q) Q) → IWp P F c s Q
  | 0, c, s, Q, _, h => by rw [front0, rest0] at h; exact h
  | n + 1, c, s, Q, hs, h => by
    cases c with
    | seq x y =>
      rw [frontS, restS] at h
      simp only [statC, Bool.and_eq_true] at hs
      have h' : vc P F T G H D x s (seqK (fun s' => vc P F T G H D (frontN n y) s' (seqK (fun s' => IWp P F (restN n y) s' Q) Q)) (seqK (fun s' => IWp P F (restN n y) s' Q) Q)) := h
      refine iwp_seq (iwp_mono (vc_sound hT hm hG hH x s _ hs.1 h') ?_)
      intro e s1 h1
      cases e with
      | normal => exact vc_cut hT hm hG hH n y s1 Q hs.2 h1
      | _ => exact h1
    | _ => exact h

end

theorem icall_cut {T : Nat → TD} {G : List (Nat × PSpec)} {H : List (Nat × HSpec)} {P : Program} {n : Nat} {c : Code} {res : Array ResultVar} {v : IV} (m : Nat) (D : List (Nat × List (Nat × Nat))) (hT : TOK P T) (hm : P.follows .mixedOrders = true) (hG : GOK P G) (hH : HOK P H) {f : FuncId} {fn : Func} {args : List IV}
    (hf : P.funcs[f]? = some fn) (hb : fn.body = some c) (hN : fn.ntmps = n) (hr : fn.results = res) (hn : (Nat.ble args.length n && Nat.ble n 1000) = true) (hs : statC D c = true)
    (h : ∀ F : Fr, F.N = n → (∀ i k es, lkT (enumT 0 args) i = .sl k es → es.length ≤ maxLen) →
      V ⟨P, T, G, H, D, F⟩ (frontN m c) ⟨enumT 0 args, []⟩ [.back (fun s' => IWp P F (restN m c) s' (Fin res v))] (Fin res v)) : ICall P f args v := by
  rw [Bool.and_eq_true] at hn
  refine icall_of hf hb (by rw [hN]; exact Nat.le_of_ble_eq_true hn.1) (by rw [hN]; exact Nat.le_of_ble_eq_true hn.2) fun F hF => ?_
  intro μ κ a w R
  subst hr
  refine vc_cut hT hm (hG.toF F) hH m c _ _ hs (h F (hF.trans hN) ?_) μ κ a w R
  intro i k es hi
  have hq := R.tmps i
  simp only [hi, RepV] at hq
  obtain ⟨ad, n, cp, _, h1, h2, h3, _⟩ := hq
  omega

theorem hcall_cut {T : Nat → TD} {G : List (Nat × PSpec)} {H : List (Nat × HSpec)} {P : Program} {n : Nat} {c : Code} {res : Array ResultVar} {v : IV} {hp hp' : List (Nat × Option IBlk)} (m : Nat) (D : List (Nat × List (Nat × Nat))) (hT : TOK P T) (hm : P.follows .mixedOrders = true) (hG : GOK P G) (hH : HOK P H) {f : FuncId} {fn : Func} {args : List IV}
    (hf : P.funcs[f]? = some fn) (hb : fn.body = some c) (hN : fn.ntmps = n) (hr : fn.results = res) (hn : (Nat.ble args.length n && Nat.ble n 1000) = true) (hs : statC D c = true)
    (h : ∀ F : Fr, F.N = n → (∀ i k es, lkT (enumT 0 args) i = .sl k es → es.length ≤ maxLen) →
      V ⟨P, T, G, H, D, F⟩ (frontN m c) ⟨enumT 0 args, hp⟩ [.back (fun s' => IWp P F (restN m c) s' (FinH T res v hp'))] (FinH T res v hp')) : HCall P f args hp v hp' := by
  rw [Bool.and_eq_true] at hn
  refine hcall_of hT hf hb (by rw [hN]; exact Nat.le_of_ble_eq_true hn.1) (by rw [hN]; exact Nat.le_of_ble_eq_true hn.2) fun F hF => ?_
  intro μ κ a w R
  subst hr
  refine vc_cut hT hm (hG.toF F) hH m c _ _ hs (h F (hF.trans hN) ?_) μ κ a w R
  intro i k es hi
  have hq := R.tmps i
  simp only [hi, RepV] at hq
  obtain ⟨ad, n, cp, _, h1, h2, h3, _⟩ := hq
  omega

/-- Going on after a cut, from a weaker state. -/
theorem iwp_go {E : Env} {c : Code} {s : ISt} {Q : Exit → ISt → Prop} (hE : E.OK) (hs : statC E.D c = true) (ρ : Nat → Nat) (s' : ISt) (hl : SLe ρ s s') (h : V E c s' [] Q) : IWp E.P E.F c s Q :=
  iwp_sle ρ hl (iwp_V hE hs h)

end Go.Ideal
