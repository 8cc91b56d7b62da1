/- Append onto a slice of the frame's own. -/
import Derived.Test.YtodeicbcacggdaaIdJ
set_option linter.unusedVariables false
set_option linter.unusedSimpArgs false
namespace Go.Ideal
open Go

/-- The elements of a slice that is appended. -/
def srcV (h : Nat → Option IBlk) (k : Nat) : IV → List IV × Prop
  | .sl k' es => (es, k' = k)
  | .ref id off n _ =>
    match h id with
    | some (.arr k' _ es) => ((es.drop off).take n, k' = k ∧ off + n ≤ es.length)
    | _ => ([], False)
  | .nils => ([], True)
  | _ => ([], False)

def refId : IV → Option Nat
  | .ref id _ _ _ => some id
  | _ => none

def effAppend (T : Nat → TD) (N : Nat) (ops : List Oper) (o : Oper) (t : TypeId) (sx x : Operand) (s : ISt) : Eff :=
  match o.dst with
  | none => { ob := False, tv := [], hv := [] }
  | some d =>
    bif (gval s.tm ops o).1 then
      match gO s.tm sx with
      | .ref id 0 n true =>
        match lkH s.hp id with
        | some (.arr k ty es) =>
          { ob := (gval s.tm ops o).2 ∧ d < N ∧ mentTm d s.tm = false ∧ mentHp d s.hp = false ∧ gB s.tm sx = true ∧ gB s.tm x = true ∧ (T t).on = true ∧ (T t).elem ≠ 0 ∧ (T (T t).elem).on = true ∧ (T t).elem = ty ∧ (T (T t).elem).size = k ∧
              n ≤ es.length ∧ (srcV (lkH s.hp) k (gO s.tm x)).2 ∧ (n + (srcV (lkH s.hp) k (gO s.tm x)).1.length) * (T (T t).elem).bytes ≤ 140737488355328 ∧ 0 < (T (T t).elem).bytes ∧ refId (gO s.tm x) ≠ some id,
            tv := [(d, .ref d 0 (n + (srcV (lkH s.hp) k (gO s.tm x)).1.length) true)],
            hv := [(d, some (.arr k ty (es.take n ++ (srcV (lkH s.hp) k (gO s.tm x)).1))), (id, none)] }
        | _ => { ob := False, tv := [], hv := [] }
      | .nils =>
        { ob := (gval s.tm ops o).2 ∧ d < N ∧ mentTm d s.tm = false ∧ mentHp d s.hp = false ∧ gB s.tm sx = true ∧ gB s.tm x = true ∧ (T t).on = true ∧ (T t).elem ≠ 0 ∧ (T (T t).elem).on = true ∧
              (srcV (lkH s.hp) (T (T t).elem).size (gO s.tm x)).2 ∧ 0 < (srcV (lkH s.hp) (T (T t).elem).size (gO s.tm x)).1.length ∧ (srcV (lkH s.hp) (T (T t).elem).size (gO s.tm x)).1.length * (T (T t).elem).bytes ≤ 140737488355328 ∧ 0 < (T (T t).elem).bytes,
          tv := [(d, .ref d 0 (srcV (lkH s.hp) (T (T t).elem).size (gO s.tm x)).1.length true)],
          hv := [(d, some (.arr (T (T t).elem).size (T t).elem (srcV (lkH s.hp) (T (T t).elem).size (gO s.tm x)).1))] }
      | _ => { ob := False, tv := [], hv := [] }
    else skipE o s ops N

section
variable {P : Program} {T : Nat → TD} {F : Fr} {μ κ : Nat → Nat} {s : ISt} {a : Act} {w : World} {ops : List Oper} {o : Oper}

theorem src_ok (R : RepS F μ κ s a w) {k : Nat} {x : IV} {v : Value} (hx : RepV (ctx F μ κ s.hp w) x v) (hp : (srcV (lkH s.hp) k x).2) :
    ∃ ao m cp xs, v = .slice ao m cp ∧ m = (srcV (lkH s.hp) k x).1.length ∧ RepX (ctx F μ κ s.hp w) k (srcV (lkH s.hp) k x).1 xs ∧ noIdL (srcV (lkH s.hp) k x).1 ∧
      ((ao = none ∧ cp = 0 ∧ m = 0) ∨ ∃ ad, ao = some ad ∧ ∀ j u, xs[j]? = some u → w.cell? (ad.add j) = some u) := by
  cases x with
  | sl k' es =>
    simp only [srcV] at hp ⊢
    subst hp
    simp only [RepV] at hx
    obtain ⟨ao, m, cp, rfl, hm, hle, _, han, hno, hr⟩ := hx
    by_cases h0 : 0 < m
    · obtain ⟨b, o, rfl, _, _, hR⟩ := hr h0
      obtain ⟨xs, hX, hc⟩ := hR.toX
      exact ⟨_, m, cp, xs, rfl, hm, hX, hno, .inr ⟨_, rfl, fun j u hu => by rw [Addr.add_off]; exact hc j u hu⟩⟩
    · have he : es = [] := List.length_eq_zero_iff.1 (by omega)
      subst he
      refine ⟨ao, m, cp, [], rfl, hm, by simp [RepX], hno, ?_⟩
      cases ao with
      | none => exact .inl ⟨rfl, han rfl, by omega⟩
      | some ad => exact .inr ⟨ad, rfl, by simp⟩
  | ref id off n full =>
    simp only [srcV] at hp ⊢
    cases hb : lkH s.hp id with
    | none => simp [hb] at hp
    | some blk =>
      cases blk with
      | box ty cells => simp [hb] at hp
      | arr k' ty es =>
        simp only [hb] at hp ⊢
        obtain ⟨rfl, hfit⟩ := hp
        obtain ⟨⟨cur, hheap, h2, h3, h4, h5, h6, h7⟩, hr⟩ := R.own id _ hb
        simp only [RepV] at hx
        obtain ⟨ao, cp, rfl, han, hx⟩ := hx
        obtain ⟨hn, _, _, ha⟩ := hx k' h4 (by show (lkH s.hp id).map _ = _; rw [hb]; rfl)
        have hlen : ((es.drop off).take n).length = n := by simp; omega
        obtain ⟨xs, hX, hc⟩ := ((h7.drop off (by omega)).take n).toX
        refine ⟨ao, n, cp, xs, rfl, hlen.symm, hX, (h6.drop off).take n, ?_⟩
        by_cases h0 : 0 < n
        · refine .inr ⟨_, ha (.inl h0), fun j u hu => ?_⟩
          rw [Addr.add_off]
          have := hc j u hu
          rwa [Nat.zero_add] at this
        · cases ao with
          | none => exact .inl ⟨rfl, han rfl, by omega⟩
          | some ad =>
            refine .inr ⟨ad, rfl, fun j u hu => ?_⟩
            have := hX.length
            rw [hlen] at this
            have hx0 : xs.length = 0 := by rw [this]; have : n = 0 := by omega
                                           subst this; simp
            rw [List.length_eq_zero_iff.1 hx0] at hu
            simp at hu
  | nils =>
    simp only [srcV] at hp ⊢
    simp only [RepV] at hx
    exact ⟨none, 0, 0, [], hx, rfl, by simp [RepX], fun _ => rfl, .inl ⟨rfl, rfl, rfl⟩⟩
  | _ => simp [srcV] at hp

/-- A block r of the frame's own gives way to one named d: in its place, or new. -/
theorem replaceBlock (R : RepS F μ κ s a w) {d r : Nat} {br : IBlk} (hd : d < F.N) (hm1 : mentTm d s.tm = false) (hm2 : mentHp d s.hp = false) (hbr : lkH s.hp r = some br) (hdr : d ≠ r) {w' : World}
    (hw : Chg (fun x => x = μ r) w w') (g cap : Nat) (hg : g = μ r ∨ w.heap.size ≤ g) (blk : IBlk)
    (hblk : ∀ c : Ctx, (ctx F μ κ s.hp w).Le c (fun i => i ≠ d) → c.μ d = g → c.κ d = cap → c.w = w' → RepB c d blk)
    (v : IV) (x : Value) (hv : ∀ c : Ctx, (ctx F μ κ s.hp w).Le c (fun i => i ≠ d) → c.μ d = g → c.κ d = cap → c.sh d = some blk.shape → RepV c v x) :
    ∃ μ' κ', RepS F μ' κ' ⟨(d, v) :: s.tm, (d, some blk) :: (r, none) :: s.hp⟩ (a.put (some d) x) w' := by
  let μ' : Nat → Nat := fun i => if i = d then g else μ i
  let κ' : Nat → Nat := fun i => if i = d then cap else κ i
  have hμd : μ' d = g := if_pos rfl
  have hκd : κ' d = cap := if_pos rfl
  have hμ : ∀ i, i ≠ d → μ' i = μ i := fun i h => if_neg h
  have hκ : ∀ i, i ≠ d → κ' i = κ i := fun i h => if_neg h
  have hlk : ∀ i, lkH ((d, some blk) :: (r, none) :: s.hp) i = if d = i then some blk else if r = i then none else lkH s.hp i := fun i => rfl
  have hlk2 : ∀ i, i ≠ d → lkH ((d, some blk) :: (r, none) :: s.hp) i ≠ none → r ≠ i ∧ lkH s.hp i ≠ none := by
    intro i hi h
    rw [hlk, if_neg (fun e => hi e.symm)] at h
    by_cases hr : r = i
    · rw [if_pos hr] at h; exact absurd rfl h
    · rw [if_neg hr] at h; exact ⟨hr, h⟩
  have hne : ∀ i, i ≠ r → lkH s.hp i ≠ none → μ i ≠ μ r := fun i hi h e => hi (R.inj i r h (by rw [hbr]; simp) e)
  have hlt : ∀ i, lkH s.hp i ≠ none → μ i < w.heap.size := by
    intro i hi
    cases hb : lkH s.hp i with
    | none => exact absurd hb hi
    | some b => exact lt_of_own R hb
  have hle : (ctx F μ κ s.hp w).Le (ctx F μ' κ' ((d, some blk) :: (r, none) :: s.hp) w') (fun i => i ≠ d) := by
    refine ⟨fun i hi => ?_, fun b hb hav => ?_, hw.size, fun b o' hb hav => ?_⟩
    · by_cases hr : r = i
      · left
        show (lkH ((d, some blk) :: (r, none) :: s.hp) i).map _ = none
        rw [hlk, if_neg (fun e => hi e.symm), if_pos hr]; rfl
      · right
        refine ⟨?_, hμ i hi, hκ i hi⟩
        show (lkH ((d, some blk) :: (r, none) :: s.hp) i).map _ = (lkH s.hp i).map _
        rw [hlk, if_neg (fun e => hi e.symm), if_neg hr]
    · rcases hav with hA | ⟨i, hi, rfl⟩
      · exact .inl hA
      · by_cases hid : i = d
        · subst hid
          have hb' : g < w.heap.size := by rw [← hμd]; exact hb
          rcases hg with hg | hg
          · exact .inr ⟨r, by rw [hbr]; simp, by rw [hμd, hg]⟩
          · omega
        · obtain ⟨_, h2⟩ := hlk2 i hid hi
          exact .inr ⟨i, h2, (hμ i hid).symm⟩
    · exact World.cell?_of_block (hw.block b hb (fun e => hav (.inr ⟨r, by rw [hbr]; simp, e.symm⟩)))
  have hownr := (R.own r br hbr).2
  have hchg : Chg F.B0 F.w0 w' := by
    refine R.chg.trans hw (fun _ h => h) (fun x hx he => ?_)
    subst he
    rcases hownr.2 with h | h
    · exact h
    · omega
  have R' : RepS F μ' κ' ⟨s.tm, (d, some blk) :: (r, none) :: s.hp⟩ a w' := by
    refine R.move (fun i => i ≠ d) hchg ?_ ?_ hle (fun i id h => ?_) (fun i h1 h2 => by have := F.hN; exact ⟨if_neg (by omega), if_neg (by omega)⟩)
    · intro i j hi hj hij
      by_cases h1 : i = d
      · by_cases h2 : j = d
        · rw [h1, h2]
        · exfalso
          obtain ⟨hr, hp⟩ := hlk2 j h2 hj
          rw [h1, hμd, hμ j h2] at hij
          have := hlt j hp
          rcases hg with hg | hg
          · exact hne j (fun e => hr e.symm) hp (by rw [← hij, hg])
          · omega
      · by_cases h2 : j = d
        · exfalso
          obtain ⟨hr, hp⟩ := hlk2 i h1 hi
          rw [h2, hμd, hμ i h1] at hij
          have := hlt i hp
          rcases hg with hg | hg
          · exact hne i (fun e => hr e.symm) hp (by rw [hij, hg])
          · omega
        · obtain ⟨_, hp⟩ := hlk2 i h1 hi
          obtain ⟨_, hq⟩ := hlk2 j h2 hj
          rw [hμ i h1, hμ j h2] at hij
          exact R.inj i j hp hq hij
    · intro i b hb
      by_cases h1 : i = d
      · subst h1
        rw [hlk, if_pos rfl] at hb
        injection hb with hb
        subst hb
        refine ⟨hblk _ hle hμd hκd rfl, ?_⟩
        rw [hμd]
        rcases hg with hg | hg
        · rw [hg]; exact hownr
        · exact ⟨fun hA => by have := F.hA _ hA; have := R.chg.size; omega, .inr (Nat.le_trans R.chg.size hg)⟩
      · obtain ⟨hr, hp⟩ := hlk2 i h1 (by rw [hb]; simp)
        rw [hlk, if_neg (fun e => h1 e.symm), if_neg hr] at hb
        obtain ⟨hB, hA⟩ := R.own i b hb
        have hnb := hne i (fun e => hr e.symm) hp
        rw [hμ i h1]
        refine ⟨RepB.mono hle (hμ i h1) (hκ i h1) (hw.block _ (hlt i hp) hnb) (fun o' => World.cell?_of_block (hw.block _ (hlt i hp) hnb)) (fun ty cells hbe i' hi' => ?_) hB, hA⟩
        subst hbe
        rintro rfl
        rw [mentHp_lk hm2 i ty cells hb] at hi'
        cases hi'
    · rintro rfl
      rw [mentTm_lk hm1 i] at h
      cases h
  refine ⟨μ', κ', R'.put (hv _ hle hμd hκd ?_) hd⟩
  show (lkH ((d, some blk) :: (r, none) :: s.hp) d).map _ = _
  rw [hlk, if_pos rfl]; rfl

theorem nextcap_bound {n c b : Nat} (hb : 0 < b) (h : n * b ≤ 140737488355328) (hc : c < n) : Builtin.nextslicecap n c * b ≤ 281474976710656 := by
  have h1 := nextslicecap_le hc
  have h2 : Builtin.nextslicecap n c * b ≤ 2 * n * b := Nat.mul_le_mul_right _ h1
  have h3 : 2 * n * b = 2 * (n * b) := Nat.mul_assoc _ _ _
  omega

theorem ref_rep {c : Ctx} {d n cap g : Nat} (hμ : c.μ d = g) (hκ : c.κ d = cap) (hn : n ≤ cap) : RepV c (.ref d 0 n true) (.slice (some ⟨g, 0, none⟩) n cap) := by
  simp only [RepV]
  exact ⟨_, cap, rfl, by simp, fun k _ _ => ⟨hn, by omega, fun _ => by omega, fun _ => by rw [hμ, Nat.zero_mul]⟩⟩

/-- A block of cells whose first are the elements. -/
theorem arr_rep {c : Ctx} {d k cap g : Nat} {ty : TypeId} {es : List IV} {cur : Array Value} {xs : List Value} (hμ : c.μ d = g) (hκ : c.κ d = cap) (hheap : c.w.heap[g]? = some (.cells cur ty (0, 0)))
    (hsz : cur.size = cap * k) (hcap : cap ≤ maxLen) (hk : 1 ≤ k) (hle : es.length ≤ cap) (hno : noIdL es) (hX : RepX c k es xs) (hcur : ∀ (j : Nat) (u : Value), xs[j]? = some u → cur[j]? = some u) : RepB c d (.arr k ty es) := by
  refine ⟨cur, by rw [hμ]; exact hheap, by rw [hκ]; exact hsz, by rw [hκ]; exact hcap, hk, by rw [hκ]; exact hle, hno, hX.toR (fun j u hu => ?_)⟩
  rw [hμ, Nat.zero_add, cell_of_row _ _ _ _ _ _ hheap]
  exact hcur j u hu

theorem chg_drew_alloc (B : Nat → Prop) (w : World) (o : Obj) : Chg B w (w.drew.alloc o) :=
  ⟨rfl, rfl, rfl, by simp, fun b hb _ => RowKit.Below.heap_alloc w.drew o b hb, Nat.le_succ _⟩

theorem append_get {l l' l'' : List Value} (j : Nat) (u : Value) (h : (l ++ l')[j]? = some u) : (l.toArray ++ l'.toArray ++ l''.toArray)[j]? = some u := by
  have hj := (List.getElem?_eq_some_iff.1 h).1
  have e : (l.toArray ++ l'.toArray ++ l''.toArray)[j]? = (l ++ l' ++ l'')[j]? := by simp
  rw [e, List.getElem?_append_left hj]
  exact h

theorem append_run (hT : TOK P T) (R : RepS F μ κ s a w) {t ty0 : TypeId} (hon : (T t).on = true) (he : (T t).elem ≠ 0) (hoe : (T (T t).elem).on = true) {d id n : Nat} {es : List IV} {v u : Value}
    (hd : d < F.N) (hm1 : mentTm d s.tm = false) (hm2 : mentHp d s.hp = false)
    (hb : lkH s.hp id = some (.arr (T (T t).elem).size (T t).elem es)) (hdid : d ≠ id) (hn : n ≤ es.length) (hs : RepV (ctx F μ κ s.hp w) (.ref id 0 n true) v)
    {x : IV} (hx : RepV (ctx F μ κ s.hp w) x u) (hxm : ∀ d, mentTm d s.tm = false → x.ment d = false) (hp : (srcV (lkH s.hp) (T (T t).elem).size x).2) (hb0 : 0 < (T (T t).elem).bytes)
    (hby : (n + (srcV (lkH s.hp) (T (T t).elem).size x).1.length) * (T (T t).elem).bytes ≤ 140737488355328) (hne : refId x ≠ some id) :
    ∃ y w', (Builtin.append_ #[t, t] ty0 #[v, u]).run P w = .ok y w' ∧ ∃ μ' κ', RepS F μ' κ' ⟨(d, .ref d 0 (n + (srcV (lkH s.hp) (T (T t).elem).size x).1.length) true) :: s.tm,
      (d, some (.arr (T (T t).elem).size (T t).elem (es.take n ++ (srcV (lkH s.hp) (T (T t).elem).size x).1))) :: (id, none) :: s.hp⟩ (a.put (some d) y) w' := by
  have hu := (hT t hon).slice he
  obtain ⟨i, z, hi, hsz, hbytes, hz, helt, hfree⟩ := (hT _ hoe).info
  generalize hk : (T (T t).elem).size = k at *
  generalize hbb : (T (T t).elem).bytes = bb at *
  obtain ⟨ao, m, cp, xs, rfl, hm, hX, hno, hsrc⟩ := src_ok R hx hp
  generalize hes' : (srcV (lkH s.hp) k x).1 = es' at *
  obtain ⟨⟨cur, hheap, h2, h3, h4, h5, h6, h7⟩, hr⟩ := R.own id _ hb
  have hheap' : w.heap[μ id]? = some (.cells cur (T t).elem (0, 0)) := hheap
  have h2' : cur.size = κ id * k := h2
  have h3' : κ id ≤ maxLen := h3
  have h5' : es.length ≤ κ id := h5
  simp only [RepV] at hs
  obtain ⟨a0, c0, rfl, _, hs⟩ := hs
  obtain ⟨hnc, _, hfull, ha0⟩ := hs k h4 (by show (lkH s.hp id).map _ = _; rw [hb]; rfl)
  obtain rfl := ha0 (.inr trivial)
  have hc0 : c0 = κ id := by have h := hfull trivial; rw [Nat.zero_add] at h; exact h
  subst hc0
  rw [Nat.zero_mul]
  obtain ⟨ys, hY, hcY⟩ := h7.toX
  have hYl := hY.length
  have hcY' : ∀ j u, ys[j]? = some u → cur[j]? = some u := fun j u hju => by
    have h1 := hcY j u hju
    rw [Nat.zero_add] at h1
    have h1' : w.cell? ⟨μ id, j, none⟩ = some u := h1
    rwa [cell_of_row _ _ _ _ _ _ hheap'] at h1'
  have hYt := hY.take n hn
  have hXl := hX.length
  have hlen : (es.take n ++ es').length = n + m := by simp; omega
  have hXm : ∀ c : Ctx, (ctx F μ κ s.hp w).Le c (fun i => i ≠ d) → RepX c k (es.take n ++ es') (ys.take (n * k) ++ xs) := fun c hle =>
    (hYt.append hX).mono hle (fun id' h => by
      rintro rfl
      have : IV.mentL id' (es.take n ++ es') = false := noIdL_of (fun q hq => by
        rcases List.mem_append.1 hq with hq | hq
        · exact noIdL_mem (h6.take n) q hq
        · exact noIdL_mem hno q hq) id'
      rw [this] at h; cases h)
  have hnoA : noIdL (es.take n ++ es') := noIdL_of fun q hq => by
    rcases List.mem_append.1 hq with hq | hq
    · exact noIdL_mem (h6.take n) q hq
    · exact noIdL_mem hno q hq
  have htake : (ys.take (n * k)).length = n * k := by
    have : n * k ≤ es.length * k := Nat.mul_le_mul_right _ hn
    rw [List.length_take]; omega
  have hnm : n + m ≤ (n + m) * bb := Nat.le_mul_of_pos_right _ hb0
  rcases hsrc with ⟨rfl, rfl, hm0⟩ | ⟨ad, rfl, hcells⟩
  · -- a nil source: nothing turns
    have hm0' : m = 0 := hm0
    subst hm0'
    have hes0 : es' = [] := List.length_eq_zero_iff.1 (by omega)
    subst hes0
    have hown : w.ownsRow 0 (T t).elem k (.slice (some ⟨μ id, 0, none⟩) n (κ id)) n (cur.toList.take (n * k)) := by
      refine ⟨by simp; have : n * k ≤ κ id * k := Nat.mul_le_mul_right _ hnc; omega, .inr ⟨μ id, κ id, cur, rfl, Nat.zero_le _, hheap', hnc, h3', h2', rfl⟩⟩
    have hrun := run_append_owned_none (P := P) (w := w) 0 t ty0 (T t).elem i k hu hi _ n _ hown
    refine ⟨_, _, hrun, ?_⟩
    obtain ⟨μ', κ', R'⟩ := replaceBlock R hd hm1 hm2 hb hdid (w' := w) (Chg.refl _ _) (μ id) (κ id) (.inl rfl) (.arr k (T t).elem (es.take n ++ []))
      (fun c hle hμ hκ hw => arr_rep hμ hκ (by rw [hw]; exact hheap') h2' h3' h4 (by rw [hlen]; omega) hnoA (hXm c hle) (fun j q hj => by
        have : xs = [] := List.length_eq_zero_iff.1 (by rw [hXl]; simp)
        subst this
        rw [List.append_nil, List.getElem?_take] at hj
        split at hj
        · exact hcY' j q hj
        · cases hj))
      (.ref d 0 (n + 0) true) (.slice (some ⟨μ id, 0, none⟩) n (κ id)) (fun c hle hμ hκ hs => ref_rep hμ hκ hnc)
    exact ⟨μ', κ', R'⟩
  · by_cases hroom : n + m ≤ κ id
    · -- there is room
      have hfit : n * i.size + xs.length ≤ cur.size := by
        rw [hsz, hXl, ← hm, h2', ← Nat.add_mul]; exact Nat.mul_le_mul_right _ hroom
      have hrun := run_append_room (P := P) w t ty0 (T t).elem i hu hi (μ id) n (κ id) cur hheap' ad m cp xs (by rw [hsz, hXl, hm]) hcells (fun u hu => RepX.one (es := es') (xs := xs) hX u hu) hroom hfit
      refine ⟨_, _, hrun, ?_⟩
      rw [hsz] at hfit ⊢
      refine replaceBlock R hd hm1 hm2 hb hdid (chg_setRow _ _ _) (μ id) (κ id) (.inl rfl) (.arr k (T t).elem (es.take n ++ es'))
        (fun c hle hμ hκ hw => arr_rep hμ hκ (by rw [hw]; exact setRow_heap w _ cur _ _ _ hheap') ?_ h3' h4 (by rw [hlen]; omega) hnoA (hXm c hle) (fun j q hj => ?_))
        (.ref d 0 (n + es'.length) true) _ (fun c hle hμ hκ hs => by rw [← hm]; exact ref_rep hμ hκ hroom)
      · simp only [List.size_toArray, List.length_append, List.length_take, List.length_drop, Array.length_toList]; omega
      · rw [List.getElem?_toArray, List.getElem?_append_left (by
          have := (List.getElem?_eq_some_iff.1 hj).1
          rw [List.length_append, htake] at this
          simp only [List.length_append, List.length_take, Array.length_toList]; omega)]
        by_cases hjn : j < n * k
        · rw [List.getElem?_append_left (by rw [htake]; exact hjn), List.getElem?_take, if_pos hjn] at hj
          rw [List.getElem?_append_left (by simp only [List.length_take, Array.length_toList]; omega), List.getElem?_take, if_pos hjn]
          have := hcY' j q hj
          simpa using this
        · rw [List.getElem?_append_right (by rw [htake]; omega), htake] at hj
          have hl2 : (cur.toList.take (n * k)).length = n * k := by simp only [List.length_take, Array.length_toList]; omega
          rw [List.getElem?_append_right (by rw [hl2]; omega), hl2]
          exact hj
    · -- a new row
      have hg : κ id < n + m := by omega
      have hcap := nextcap_bound (n := n + m) hb0 (by rw [hm]; exact hby) hg
      have hYt' : ∀ j q, (ys.take (n * k))[j]? = some q → w.cell? ((⟨μ id, 0, none⟩ : Addr).add j) = some q := fun j q hj => by
        rw [List.getElem?_take] at hj
        split at hj
        · rw [Addr.add_off, Nat.zero_add, cell_of_row _ _ _ _ _ _ hheap']
          exact hcY' j q hj
        · cases hj
      have hrun := run_append_grow (P := P) w t ty0 (T t).elem i z hu hi hz ⟨μ id, 0, none⟩ n (κ id) (ys.take (n * k)) (by rw [hsz, htake]) hYt' ad m cp xs (by rw [hsz, hXl, hm]) hcells hg
        (by rw [← hm] at hby; omega) (by rw [hbytes]; exact hcap)
      refine ⟨_, _, hrun, ?_⟩
      have hge := grownCap_ge w (n + m) (κ id) (T t).elem
      have hlem : grownCap w (n + m) (κ id) (T t).elem ≤ maxLen := grownCap_le_maxLen w (n + m) (κ id) (T t).elem (by rw [← hm] at hby; unfold maxLen; omega)
      have hzs : z.cells.size = k := helt.1
      refine replaceBlock R hd hm1 hm2 hb hdid (chg_drew_alloc _ _ _) w.heap.size (grownCap w (n + m) (κ id) (T t).elem) (.inr (Nat.le_refl _)) (.arr k (T t).elem (es.take n ++ es'))
        (fun c hle hμ hκ hw => arr_rep hμ hκ (by rw [hw]; exact heap_alloc_at w.drew _) ?_ hlem h4 (by rw [hlen]; omega) hnoA (hXm c hle) (fun j q hj => ?_))
        (.ref d 0 (n + es'.length) true) _ (fun c hle hμ hκ hs => by rw [← hm]; exact ref_rep hμ hκ hge)
      · simp only [Array.size_append, List.size_toArray, size_zeroCells, hzs, htake, hXl, ← hm, ← Nat.add_mul]
        congr 1
        omega
      · have := append_get (l'' := (Builtin.zeroCells z.cells (grownCap w (n + m) (κ id) (T t).elem - (n + m))).toList) j q hj
        simpa using this

end
end Go.Ideal
