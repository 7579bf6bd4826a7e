/- Trees: Nodes, the walk. -/
import Derived.Test.YtogmdfbamgjjfaaH18
set_option linter.unusedVariables false
set_option linter.unusedSimpArgs false
namespace Go.Proofs.Ytogmdfbamgjjfaa.T
open Go Go.RowKit Go.Proofs

structure NRec where
  id : Nat
  birth : Nat
  lv : Nat
  kids : List Int
  data : List Int
def Tr.id : Tr → Nat
  | .nil => 0
  | .nd id _ _ _ => id
def Tr.bi : Tr → Nat
  | .nil => 0
  | .nd _ b _ _ => b
def one1 (lv : Nat) : Tr → List (Nat × Tr)
  | .nil => []
  | .nd a b c d => [(lv, .nd a b c d)]
def kid1 (n : Nat) : Tr → Int
  | .nil => -1
  | .nd _ _ _ _ => (n : Int)
def kq (lv : Nat) (k : Nat → Tr) : Nat → List (Nat × Tr)
  | 0 => []
  | j + 1 => kq lv k j ++ one1 lv (k j)
def ki (n lv : Nat) (k : Nat → Tr) : Nat → List Int
  | 0 => []
  | j + 1 => ki n lv k j ++ [kid1 (n + (kq lv k j).length) (k j)]
theorem ki_len (n lv : Nat) (k : Nat → Tr) : ∀ j, (ki n lv k j).length = j
  | 0 => rfl
  | j + 1 => by simp [ki, ki_len n lv k j]
theorem kq_len (lv : Nat) (k : Nat → Tr) : ∀ j, (kq lv k j).length ≤ j
  | 0 => by simp [kq]
  | j + 1 => by
    have := kq_len lv k j
    simp only [kq, List.length_append]
    cases k j <;> simp [one1] <;> omega
def datL (ds : Nat → Int) : List Int := (List.range 64).map ds
theorem datL_len (ds : Nat → Int) : (datL ds).length = 64 := by simp [datL]
theorem datL_cells (ds : Nat → Int) : ints .u8 (datL ds) = datC ds := by simp [datL, datC, ints, List.map_map, Function.comp_def]
def kqn (x : Nat × Tr) : List (Nat × Tr) := match x.1 with
  | 0 => []
  | lv + 1 => kq lv x.2.kids 4
def recOf (n : Nat) (x : Nat × Tr) : NRec := match x.1 with
  | 0 => ⟨x.2.id, x.2.bi, 0, [], datL x.2.dat⟩
  | lv + 1 => ⟨x.2.id, x.2.bi, lv + 1, ki n lv x.2.kids 4, []⟩
inductive BF : Nat → List (Nat × Tr) → List NRec → List (Nat × Tr) → List NRec → Prop where
  | done (q : List (Nat × Tr)) (N : List NRec) : BF q.length q N q N
  | step {i : Nat} {q q' : List (Nat × Tr)} {N N' : List NRec} {x : Nat × Tr} (h : q[i]? = some x) (r : BF (i + 1) (q ++ kqn x) (N ++ [recOf q.length x]) q' N') : BF i q N q' N'

/-- How many nodes. -/
def cntT : Nat → Tr → Nat
  | _, .nil => 0
  | 0, .nd _ _ _ _ => 1
  | l + 1, .nd _ _ k _ => 1 + (cntT l (k 0) + cntT l (k 1) + cntT l (k 2) + cntT l (k 3))
theorem cntT_nil (l : Nat) : cntT l .nil = 0 := by cases l <;> rfl
def sumQ (q : List (Nat × Tr)) : Nat := (q.map fun x => cntT x.1 x.2).sum
theorem sumQ_app (a b : List (Nat × Tr)) : sumQ (a ++ b) = sumQ a + sumQ b := by simp [sumQ]
theorem sumQ_one (lv : Nat) (t : Tr) : sumQ (one1 lv t) = cntT lv t := by cases t <;> simp [one1, sumQ, cntT_nil]
theorem sumQ_kqn {x : Nat × Tr} (h : x.2 ≠ .nil) : sumQ (kqn x) + 1 = cntT x.1 x.2 := by
  obtain ⟨lv, t⟩ := x
  cases t with
  | nil => exact absurd rfl h
  | nd a b k d =>
    cases lv with
    | zero => simp [kqn, sumQ, cntT]
    | succ lv => simp only [kqn, kq, Tr.kids, sumQ_app, sumQ_one, cntT]; simp [sumQ]; omega
theorem cntT_pos {x : Nat × Tr} (h : x.2 ≠ .nil) : 1 ≤ cntT x.1 x.2 := by have := sumQ_kqn h; omega

def PtrR (h0 : AHeap) (A : Nat → Prop) (x : Nat × Tr) (r : List AV) : Prop :=
  ∃ b id bi k ds qq, r = [.ptr (some (b, 0))] ∧ x.2 = .nd id bi k ds ∧ A b ∧ h0 b = some (blkN id bi x.1 qq ds) ∧ ∀ j, j < 4 → Kd A x.1 h0 (qq j) (k j)
def NodR (h : AHeap) (nx : Nat) (A : Nat → Prop) (x : NRec) (r : List AV) : Prop :=
  ∃ kv dv, r = [.int .i64 (x.id : Int), .int .i64 (x.birth : Int), .int .i64 (x.lv : Int), kv, dv] ∧ Byt .i64 h nx A kv x.kids ∧ Byt .u8 h nx A dv x.data
theorem NodR.go {h h' : AHeap} {nx nx' : Nat} {A A' D : Nat → Prop} {x : NRec} {r : List AV} (w : NodR h nx A x r) (f : Frm D h nx h' nx') (d : ∀ i, i < nx → D i → A i) (g : ∀ i, i < nx → A' i → A i) : NodR h' nx' A' x r := by
  obtain ⟨kv, dv, e, a, b⟩ := w
  exact ⟨kv, dv, e, a.go f d g, b.go f d g⟩
theorem byt_nilk {k : IntKind} {h : AHeap} {nx : Nat} {A : Nat → Prop} : Byt k h nx A (.slice none 0 false) [] := ⟨none, false, rfl, ⟨by simp, fun j hj => by simp at hj⟩, Av.none⟩

structure BS (h0 : AHeap) (n0 : Nat) (A : Nat → Prop) (h : AHeap) (nx : Nat) (ra oa : Option (Nat × Nat)) (q : List (Nat × Tr)) (N : List NRec) : Prop where
  x : Ext h0 n0 h nx
  oq : OwnRows (PtrR h0 A) h nx ra 1 q
  oN : OwnRows (NodR h nx fun i => ownOf ra i ∨ ownOf oa i) h nx oa 5 N
  gr : ∀ i, ownOf ra i → n0 ≤ i
  go : ∀ i, ownOf oa i → n0 ≤ i
  ap : ∀ i, ownOf ra i → ¬ ownOf oa i
theorem BS.ext {h0 : AHeap} {n0 : Nat} {A : Nat → Prop} {h h' : AHeap} {nx nx' : Nat} {ra oa : Option (Nat × Nat)} {q : List (Nat × Tr)} {N : List NRec} (w : BS h0 n0 A h nx ra oa q N) (x : Ext h nx h' nx') : BS h0 n0 A h' nx' ra oa q N :=
  ⟨⟨by have := w.x.1; have := x.1; omega, fun i hi => (x.2 i (by have := w.x.1; omega)).trans (w.x.2 i hi)⟩, w.oq.go (x.fr fun _ => False) (fun _ _ q => q) (fun _ _ q => q),
    w.oN.go (x.fr fun _ => False) (fun _ _ q => q) (fun _ _ r => r.go (x.fr fun _ => False) (fun _ _ q => q.elim) (fun _ _ q => q)), w.gr, w.go, w.ap⟩

def IntR (k : IntKind) (x : Int) (r : List AV) : Prop := r = [.int k x]
theorem flat_ints {k : IntKind} : ∀ {l : List Int} {rows : List (List AV)}, All2 (IntR k) l rows → rows.flatten = ints k l
  | [], rows, h => by simp only [All2] at h; subst h; rfl
  | x :: l, rows, h => by
    obtain ⟨y, ys, rfl, e, q⟩ := h
    simp only [IntR] at e; subst e
    simp [flat_ints q, ints]
theorem OwnRows.byt {k : IntKind} {h : AHeap} {nx : Nat} {A : Nat → Prop} {a : Option (Nat × Nat)} {c : Bool} {l : List Int} (w : OwnRows (IntR k) h nx a 1 l) (d : ∀ i, ownOf a i → ¬ A i) : Byt k h nx A (.slice a l.length c) l := by
  obtain ⟨rows, q, len, sl, av⟩ := w.rows d
  rw [flat_ints q] at sl
  exact ⟨a, c, rfl, sl, av⟩

/-- Clone of a node's data. -/
theorem clone_spec {f : Nat} (hf : 1 ≤ f) (Y : YldF) {h : AHeap} {nx b id bi lv : Nat} {qq : Nat → Option (Nat × Nat)} {ds : Nat → Int} (hb : h b = some (blkN id bi lv qq ds)) (lb : b < nx) (c : Bool) :
    ∃ a2 c2 h', callP Try.prog keepT f Y 18 [.slice (some (b, 7)) 64 c] h nx = some (.slice a2 64 c2, h', nx + 7) ∧ Ext h nx h' (nx + 7) ∧ OwnSl h' nx (nx + 7) a2 64 1 (datC ds) := by
  obtain ⟨f, rfl⟩ : ∃ m, f = m + 1 := ⟨f - 1, by omega⟩
  rw [F18_eq, if_neg (by simp)]
  dsimp only
  have hs : srcS (h.put (nx + 3) (some ⟨[], 1, true⟩)) (some (b, 7)) 64 1 = some (64, datC ds, [b]) := by
    simp only [srcS]
    rw [if_neg (by omega), put_ne (by omega), hb]
    simp only [Option.bind_some, blkN]
    rw [if_pos (by rw [Bool.and_eq_true]; exact ⟨beq_self_eq_true _, decide_eq_true (by rw [cellsN_len]; omega)⟩), show 64 * 1 = 64 from rfl, cellsN_dat]
  have ha : appD (h.put (nx + 3) (some ⟨[], 1, true⟩)) (some (nx + 3, 0)) 0 true 1 1 (nx + 5) (64, datC ds, [b]) = some ⟨some (nx + 5, 0), 64, false, [(nx + 5, some ⟨datC ds, 1, true⟩)], (nx + 3) :: [b]⟩ := by
    unfold appD
    rw [if_neg (by simp), if_pos (growOk_of (by simp) (by omega))]
    simp only [put_same, Option.bind_some]
    rw [if_pos (by simp)]
    simp
  rw [hs]
  simp only [mst_]
  rw [ha]
  simp only [mst_]
  refine ⟨_, _, _, rfl, ⟨by omega, fun i hi => ?_⟩, by rw [datC_len], .inr ⟨nx + 5, rfl, by omega, by omega, by simp⟩⟩
  simp only [puts_cons, puts_nil]
  rw [put_ne (by omega), put_ne (by omega)]

/-- A record that is appended. -/
theorem out_push {h0 : AHeap} {n0 : Nat} {A : Nat → Prop} {h1 h : AHeap} {n1 nx : Nat} {ra oa ra' : Option (Nat × Nat)} {q q' : List (Nat × Tr)} {N : List NRec} (w : BS h0 n0 A h1 n1 ra oa q N) (fr : Frm (ownOf ra) h1 n1 h nx) (oq : OwnRows (PtrR h0 A) h nx ra' 1 q') (gr : ∀ i, ownOf ra' i → ownOf ra i ∨ n1 ≤ i) (hN : N.length ≤ 5000)
    {x : NRec} {r : List AV} {id id2 : Nat} (hid : nx ≤ id) (hid2 : id < id2) (hr : NodR h nx (fun i => ownOf ra' i ∨ ownOf oa i) x r) (hl : r.length = 5) (oc : Bool) :
    ∃ e, srcS (h.put id (some ⟨r, 5, true⟩)) (some (id, 0)) 1 5 = some (1, r, [id]) ∧ appD (h.put id (some ⟨r, 5, true⟩)) oa N.length oc 5 72 id2 (1, r, [id]) = some e ∧ e.n = (N ++ [x]).length ∧ BS h0 n0 A ((h.put id (some ⟨r, 5, true⟩)).puts e.sets) (id2 + 1) ra' e.a q' (N ++ [x]) := by
  have l1 := fr.1
  have lx := w.x.1
  have oN1 : OwnRows (NodR h nx fun i => ownOf ra' i ∨ ownOf oa i) h nx oa 5 N := w.oN.go fr (fun i q z => w.ap i z q) (fun _ _ r => r.go fr (fun _ _ q => .inl q) (fun i hi q => by
    rcases q with q | q
    · rcases gr i q with q | q
      · exact .inl q
      · omega
    · exact .inr q))
  obtain ⟨e, p1, p2, p3, p4, p5, p6, p7, p8⟩ := oN1.push oc (bytes := 72) (id := id) (id2 := id2) hl hr (growOk_of (by omega) (by omega)) hid hid2
  refine ⟨e, p1, p2, by rw [p4]; simp, ?_⟩
  have ro : ∀ i, ownOf ra' i → ¬ ownOf oa i := fun i q z => by
    rcases gr i q with q | q
    · exact w.ap i q z
    · have := w.oN.lt z; omega
  refine ⟨⟨by omega, fun i hi => ?_⟩, oq.go p6 ro (fun _ _ r => r), ?_, fun i q => ?_, fun i q => ?_, fun i q z => ?_⟩
  · rw [p6.2 i (by omega) (fun q => by have := w.go i q; omega), fr.2 i (by omega) (fun q => by have := w.gr i q; omega), w.x.2 i hi]
  · exact p5.go (Frm.refl (fun _ => False) _ _) (fun _ _ q => q) (fun _ _ r => r.go p6 (fun _ _ q => .inr q) (fun i hi q => by
      rcases q with q | q
      · exact .inl q
      · rw [p3] at q; have := own_some q; omega))
  · rcases gr i q with q | q
    · exact w.gr i q
    · omega
  · rw [p3] at q; have := own_some q; omega
  · rw [p3] at z; have := own_some z; have := oq.lt q; omega

/-- The loop over kids. -/
theorem n_loop4 {P : Option Res → Prop} {f : Nat} {Y : YldF} {g lf i : Nat} {h0 : AHeap} {n0 : Nat} {A : Nat → Prop} (hA : ∀ b, A b → b < n0) {h1 : AHeap} {n1 : Nat} {ra oa : Option (Nat × Nat)} {q : List (Nat × Tr)} {N : List NRec} (w : BS h0 n0 A h1 n1 ra oa q N) {rb : Nat} (hrb : n1 ≤ rb) {id bi lv : Nat} {qq : Nat → Option (Nat × Nat)} {k : Nat → Tr} {oc : Bool} (hN : N.length ≤ 5000) (hq : q.length ≤ 5000) (hi : i ≤ 100000)
    (hk : ∀ j, j < 4 → Kd A (lv + 1) h0 (qq j) (k j))
    (next : ∀ (ra' oa' : Option (Nat × Nat)) (rc' oc' : Bool) (h' : AHeap) (nx' : Nat), BS h0 n0 A h' nx' ra' oa' (q ++ kq lv k 4) (N ++ [(⟨id, bi, lv + 1, ki q.length lv k 4, []⟩ : NRec)]) → P (F11_L3 (callP Try.prog keepT f) Y g lf oa' (N ++ [(⟨id, bi, lv + 1, ki q.length lv k 4, []⟩ : NRec)]).length oc' ra' (q ++ kq lv k 4).length rc' ((i + 1 : Nat) : Int) h' nx')) (d : Nat) :
    ∀ (l4 j : Nat) (ra' ka : Option (Nat × Nat)) (rc kc : Bool) (h : AHeap) (nx : Nat), j + d = 4 → d < l4 → Frm (ownOf ra) h1 n1 h nx → rb < nx → OwnRows (PtrR h0 A) h nx ra' 1 (q ++ kq lv k j) → (∀ i, ownOf ra' i → (ownOf ra i ∨ n1 ≤ i) ∧ i ≠ rb ∧ ¬ ownOf ka i) → OwnRows (IntR .i64) h nx ka 1 (ki q.length lv k j) → (∀ i, ownOf ka i → n1 ≤ i ∧ i ≠ rb) →
      h rb = some ⟨[.int .i64 (id : Int), .int .i64 (bi : Int), .int .i64 ((lv + 1 : Nat) : Int), .slice ka j kc, .slice none 0 false], 5, true⟩ →
      P (F11_L4 (callP Try.prog keepT f) Y g lf l4 oa N.length oc ra' (q ++ kq lv k j).length rc (i : Int) (some (rb, 0)) [.ptr (qq 0), .ptr (qq 1), .ptr (qq 2), .ptr (qq 3)] (j : Int) h nx) := by
  induction d with
  | zero =>
    intro l4 j ra' ka rc kc h nx e hl fr lr oq gr ok gk er
    obtain ⟨l4, rfl⟩ : ∃ m, l4 = m + 1 := ⟨l4 - 1, by omega⟩
    obtain rfl : j = 4 := by omega
    rw [F11_L4_eq, if_neg (by decide)]
    simp only [mst_]
    rw [ldr_all er (by simp)]
    simp only [mst_, mst5]
    have kb : Byt .i64 h nx (fun i => ownOf ra' i ∨ ownOf oa i) (.slice ka 4 kc) (ki q.length lv k 4) := by
      have := ok.byt (A := fun i => ownOf ra' i ∨ ownOf oa i) (c := kc) (fun i q z => by
        rcases z with z | z
        · exact (gr i z).2.2 q
        · have := w.oN.lt z; have := (gk i q).1; omega)
      rw [ki_len] at this; exact this
    have nr : NodR h nx (fun i => ownOf ra' i ∨ ownOf oa i) ⟨id, bi, lv + 1, ki q.length lv k 4, []⟩ [.int .i64 (id : Int), .int .i64 (bi : Int), .int .i64 ((lv + 1 : Nat) : Int), .slice ka 4 kc, .slice none 0 false] := ⟨_, _, rfl, kb, byt_nilk⟩
    obtain ⟨e, p1, p2, p3, p4⟩ := out_push w fr oq (fun i q => (gr i q).1) hN (id := nx + 3) (id2 := nx + 4) (by omega) (by omega) nr rfl oc
    rw [p1]
    simp only [mst_]
    rw [p2]
    simp only [mst_]
    rw [p3, wsucc (i := i) (by omega)]
    exact next _ _ rc e.c _ (nx + 9) (p4.ext ⟨by omega, fun _ _ => rfl⟩)
  | succ d ih =>
    intro l4 j ra' ka rc kc h nx e hl fr lr oq gr ok gk er
    obtain ⟨l4, rfl⟩ : ∃ m, l4 = m + 1 := ⟨l4 - 1, by omega⟩
    have hj : j < 4 := by omega
    have l1 := fr.1
    have lkq := kq_len lv k j
    rw [F11_L4_eq, if_pos (decide_eq_true (by omega)), if_pos ⟨by omega, by omega⟩, Int.toNat_natCast, Nat.mul_one, kid_at qq hj]
    simp only [mst_]
    -- a number appended to the kids
    have j5 : ∀ (ra' : Option (Nat × Nat)) (rc : Bool) (z : Int) (h : AHeap) (nx : Nat), Frm (ownOf ra) h1 n1 h nx → rb < nx → OwnRows (PtrR h0 A) h nx ra' 1 (q ++ kq lv k (j + 1)) → (∀ i, ownOf ra' i → (ownOf ra i ∨ n1 ≤ i) ∧ i ≠ rb ∧ ¬ ownOf ka i) → OwnRows (IntR .i64) h nx ka 1 (ki q.length lv k j) →
        h rb = some ⟨[.int .i64 (id : Int), .int .i64 (bi : Int), .int .i64 ((lv + 1 : Nat) : Int), .slice ka j kc, .slice none 0 false], 5, true⟩ → z = kid1 (q.length + (kq lv k j).length) (k j) →
        P (F11_J5 (callP Try.prog keepT f) Y g lf l4 oa N.length oc ra' (q ++ kq lv k (j + 1)).length rc (i : Int) (some (rb, 0)) z [.ptr (qq 0), .ptr (qq 1), .ptr (qq 2), .ptr (qq 3)] (j : Int) h nx) := by
      intro ra' rc z h nx fr lr oq gr ok er hz
      have l1 := fr.1
      rw [F11_J5_eq]
      simp only [mst_]
      rw [Nat.zero_add, ld_at er (v := .slice ka j kc) rfl]
      simp only [mst_]
      have hkl := ki_len q.length lv k j
      obtain ⟨e, p1, p2, p3, p4, p5, p6, p7, p8⟩ := ok.push kc (bytes := 8) (id := nx + 3) (id2 := nx + 4) (x := z) (r := [.int .i64 z]) rfl rfl (growOk_of (by omega) (by omega)) (by omega) (by omega)
      rw [p1]
      simp only [mst_]
      rw [hkl] at p2 p4
      rw [p2]
      simp only [mst_]
      have rk : ∀ i, ownOf ra' i → ¬ ownOf ka i := fun i q => (gr i q).2.2
      have er2 : ((h.put (nx + 3) (some ⟨[.int .i64 z], 1, true⟩)).puts e.sets) rb = some ⟨[.int .i64 (id : Int), .int .i64 (bi : Int), .int .i64 ((lv + 1 : Nat) : Int), .slice ka j kc, .slice none 0 false], 5, true⟩ := (p6.2 rb lr (fun q => (gk rb q).2 rfl)).trans er
      rw [p3] at p5
      generalize (h.put (nx + 3) (some ⟨[.int .i64 z], 1, true⟩)).puts e.sets = h2 at *
      rw [st_to er2 (cs' := [.int .i64 (id : Int), .int .i64 (bi : Int), .int .i64 ((lv + 1 : Nat) : Int), .slice e.a e.n e.c, .slice none 0 false]) rfl (by simp) rfl, wsucc (i := j) (by omega), p3, p4]
      have fr2 : Frm (fun i => i = rb ∨ ownOf ka i) h nx (h2.put rb (some ⟨[.int .i64 (id : Int), .int .i64 (bi : Int), .int .i64 ((lv + 1 : Nat) : Int), .slice (some (nx + 4, 0)) (j + 1) e.c, .slice none 0 false], 5, true⟩)) (nx + 9) :=
        ⟨by omega, fun i hi q => by rw [put_ne (fun z => q (.inl z)), p6.2 i hi (fun z => q (.inr z))]⟩
      refine ih l4 (j + 1) ra' (some (nx + 4, 0)) rc e.c _ (nx + 9) (by omega) (by omega) (fr.trans fr2 (fun i hi q => ?_)) (by omega) (oq.go fr2 (fun i q z => ?_) (fun _ _ r => r)) (fun i q => ⟨(gr i q).1, (gr i q).2.1, fun z => ?_⟩) ?_ (fun i q => ?_) (put_same _ _ _)
      · rcases q with q | q
        · omega
        · have := (gk i q).1; omega
      · rcases z with z | z
        · exact (gr i q).2.1 z
        · exact rk i q z
      · have := own_some z; have := oq.lt q; omega
      · rw [ki, ← hz]
        exact p5.go (D := fun i => i = rb) ⟨by omega, fun i hi q => put_ne q⟩ (fun i q => by have := own_some q; omega) (fun _ _ r => r)
      · have := own_some q; omega
    cases hkj : k j with
    | nil =>
      have hqj : qq j = none := (hk j hj).nil_iff.2 hkj
      rw [hqj, if_neg (by simp)]
      have hkq : kq lv k (j + 1) = kq lv k j := by rw [kq, hkj, one1, List.append_nil]
      have := j5 ra' rc (-1) h (nx + 6) (fr.le (by omega)) (by omega) (by rw [hkq]; exact oq.go (Frm.le (Frm.refl (fun _ => False) h nx) (by omega)) (fun _ _ q => q) (fun _ _ r => r)) gr (ok.go (Frm.le (Frm.refl (fun _ => False) h nx) (by omega)) (fun _ _ q => q) (fun _ _ r => r)) er (by rw [hkj]; rfl)
      rw [hkq] at this
      exact this
    | nd a1 b1 k1 d1 =>
      rcases hk j hj with ⟨_, e2⟩ | ⟨a2, b2, k2, d2, b, q2, e2, hqj, hAb, hb, hkk⟩
      · rw [hkj] at e2; cases e2
      rw [hkj] at e2
      rw [hqj, if_pos (by simp)]
      have hkq : kq lv k (j + 1) = kq lv k j ++ [(lv, .nd a1 b1 k1 d1)] := by rw [kq, hkj, one1]
      obtain ⟨e, p1, p2, p3, p4, p5, p6, p7, p8⟩ := oq.push rc (bytes := 8) (id := nx + 11) (id2 := nx + 12) (x := (lv, .nd a1 b1 k1 d1)) (r := [.ptr (some (b, 0))]) rfl ⟨b, a2, b2, k2, d2, q2, rfl, e2, hAb, hb, hkk⟩ (growOk_of (by simp; omega) (by omega)) (by omega) (by omega)
      rw [p1]
      simp only [mst_]
      rw [p2]
      simp only [mst_]
      rw [p3] at p5
      rw [p3, p4]
      have hlen : (q ++ kq lv k j).length + 1 = (q ++ kq lv k (j + 1)).length := by rw [hkq]; simp; omega
      rw [hlen]
      rw [List.append_assoc, ← hkq] at p5
      generalize (h.put (nx + 11) (some ⟨[.ptr (some (b, 0))], 1, true⟩)).puts e.sets = h2 at *
      refine j5 _ e.c _ h2 (nx + 14) ⟨by omega, fun i hi q => ?_⟩ (by omega) (p5.go (Frm.le (Frm.refl (fun _ => False) h2 (nx + 12 + 1)) (by omega)) (fun _ _ q => q) (fun _ _ r => r)) (fun i q => ?_) (ok.go (p6.le (by omega)) (fun i q z => (gr i z).2.2 q) (fun _ _ r => r)) ?_ ?_
      · rw [p6.2 i (by omega) (fun z => by
          rcases (gr i z).1 with z | z
          · exact q z
          · omega), fr.2 i hi q]
      · have hi := own_some q
        exact ⟨.inr (by omega), by omega, fun z => by have := ok.lt z; omega⟩
      · rw [p6.2 rb lr (fun z => (gr rb z).2.1 rfl)]; exact er
      · rw [hkj]; simp [kid1]

end Go.Proofs.Ytogmdfbamgjjfaa.T
