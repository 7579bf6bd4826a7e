/- Trees: places, the walk. -/
import Derived.Test.YtogmdfbamgjjfaaH26
set_option linter.unusedVariables false
set_option linter.unusedSimpArgs false
namespace Go.Proofs.Ytogmdfbamgjjfaa.T
open Go Go.RowKit Go.Proofs

def PlR (h : AHeap) (nx : Nat) (p : Pl) (r : List AV) : Prop := ∃ dv, r = [.int .i64 (p.lv : Int), .int .i64 (p.base : Int), .int .i64 (p.id : Int), .int .i64 (p.birth : Int), dv] ∧ Byt .u8 h nx (fun _ => False) dv p.data
def PS (q : List (Nat × Tr)) (N : List NRec) (h0 : AHeap) (n0 : Nat) (a : Option (Nat × Nat)) (ac : Bool) (Y : YldF) (f l : Nat) : Prop :=
  ∀ (c base : Nat) (t : Tr) (h : AHeap) (nx : Nat), q[c]? = some (l, t) → t ≠ .nil → base + room l ≤ 10000 → Ext h0 n0 h nx →
    ∃ a2 c2 h' nx', callP Try.prog keepT f Y 13 [.slice a N.length ac, .int .i64 (c : Int), .int .i64 (base : Int)] h nx = some (.slice a2 (plc l base t).length c2, h', nx') ∧ Ext h nx h' nx' ∧ OwnRows (PlR h0 n0) h' nx' a2 5 (plc l base t) ∧ ∀ i, ownOf a2 i → nx ≤ i

/-- Of the kids, so many. -/
def plcJ (l base : Nat) (k : Nat → Tr) : Nat → List Pl
  | 0 => []
  | j + 1 => plcJ l base k j ++ plc l (base + j * room l) (k j)
theorem plc_J (l base id bi : Nat) (k : Nat → Tr) (ds : Nat → Int) : plc (l + 1) base (.nd id bi k ds) = ⟨l + 1, base, id, bi, []⟩ :: plcJ l base k 4 := by
  simp [plc, plcJ, Nat.zero_mul, Nat.one_mul]
theorem plc_len_le : ∀ (l base : Nat) (t : Tr), (plc l base t).length = cntT l t
  | l, base, .nil => by rw [plc_nil, cntT_nil]; rfl
  | 0, base, .nd id bi k ds => rfl
  | l + 1, base, .nd id bi k ds => by simp only [plc, cntT, List.length_cons, List.length_append, plc_len_le l]; omega

theorem pl_kids {q : List (Nat × Tr)} {N : List NRec} {h0 : AHeap} {n0 : Nat} {a : Option (Nat × Nat)} {ac : Bool} {Y : YldF} {f l : Nat} (hf : 1 ≤ f) (bi : BI q.length q N) (ps : PS q N h0 n0 a ac Y f l) (l2 : l ≤ 2) {g c base : Nat} {id bt : Nat} {k : Nat → Tr} {ds : Nat → Int} (hc : q[c]? = some (l + 1, .nd id bt k ds)) (hb : base + room (l + 1) ≤ 10000) {hS : AHeap} {nS : Nat} (xS : Ext h0 n0 hS nS)
    {rb : Nat} (hrb : nS ≤ rb) {ka dv : Option (Nat × Nat)} {kc dc : Bool} (sk : Sl h0 n0 ka 4 1 (ints .i64 (ki (mq q c) l (kidsAt q c) 4))) (p0 : Pl) (d : Nat) :
    ∀ (lf j : Nat) (oa : Option (Nat × Nat)) (oc : Bool) (h : AHeap) (nx : Nat), j + d = 4 → d < lf → Ext hS nS h nx → rb < nx → h rb = some ⟨[.int .i64 (id : Int), .int .i64 (bt : Int), .int .i64 ((l + 1 : Nat) : Int), .slice ka 4 kc, .slice dv 0 dc], 5, true⟩ →
      OwnRows (PlR h0 n0) h nx oa 5 (p0 :: plcJ l base k j) → (∀ i, ownOf oa i → nS ≤ i ∧ i ≠ rb) →
      ∃ a2 c2 h' nx', F13_L1 (callP Try.prog keepT f) Y g lf a N.length ac (base : Int) (some (rb, 0)) oa (p0 :: plcJ l base k j).length oc (j : Int) h nx = some (.slice a2 (p0 :: plcJ l base k 4).length c2, h', nx') ∧ Ext hS nS h' nx' ∧ OwnRows (PlR h0 n0) h' nx' a2 5 (p0 :: plcJ l base k 4) ∧ ∀ i, ownOf a2 i → nS ≤ i := by
  have hr1 := room_succ l
  have lc : c < q.length := (List.getElem?_eq_some_iff.1 hc).1
  have hkt : kidsAt q c = k := by unfold kidsAt; rw [List.getD_eq_getElem?_getD, hc]; rfl
  induction d with
  | zero =>
    intro lf j oa oc h nx e hl x lr er ow og
    obtain ⟨lf, rfl⟩ : ∃ m, lf = m + 1 := ⟨lf - 1, by omega⟩
    obtain rfl : j = 4 := by omega
    rw [F13_L1_eq]
    simp only [mst_]
    rw [Nat.zero_add, ld_at er (v := .slice ka 4 kc) rfl]
    simp only [mst_]
    rw [if_neg (by rw [decide_eq_true_eq]; omega)]
    exact ⟨oa, oc, _, _, rfl, ⟨by have := x.1; omega, x.2⟩, ow.byEq (by omega), fun i q => (og i q).1⟩
  | succ d ih =>
    intro lf j oa oc h nx e hl x lr er ow og
    obtain ⟨lf, rfl⟩ : ∃ m, lf = m + 1 := ⟨lf - 1, by omega⟩
    have hj : j < 4 := by omega
    have lx := x.1
    have xx : Ext h0 n0 h nx := ⟨by have := xS.1; omega, fun i hi => (x.2 i (by have := xS.1; omega)).trans (xS.2 i hi)⟩
    have hjr : j * room l + room l ≤ room (l + 1) := by
      rw [hr1]
      have : (j + 1) * room l ≤ 4 * room l := Nat.mul_le_mul_right _ (by omega)
      rw [Nat.add_mul] at this; omega
    have hkid : (ints .i64 (ki (mq q c) l (kidsAt q c) 4))[j]? = some (.int .i64 (kid1 (eq4 q l c (kidsAt q c) j) (kidsAt q c j))) := by
      rw [ints, List.getElem?_map, ki_get _ _ _ 4 hj]; rfl
    have rdk := fun (K : AV → Option Res) => (sk.ext xx).read0 (i := j) (by omega) (by omega) (by omega) (by rw [Int.toNat_natCast, Nat.mul_one]; exact hkid) K
    rw [F13_L1_eq]
    simp only [mst_]
    rw [Nat.zero_add, ld_at er (v := .slice ka 4 kc) rfl]
    simp only [mst_]
    rw [if_pos (decide_eq_true (by omega)), ld_at er (v := .slice ka 4 kc) rfl]
    simp only [mst_]
    rw [rdk]
    simp only [mst_]
    cases hk : kidsAt q c j with
    | nil =>
      rw [show kid1 (eq4 q l c (kidsAt q c) j) .nil = -1 from rfl, if_neg (by decide), wsucc (i := j) (by omega)]
      have hJ : plcJ l base k (j + 1) = plcJ l base k j := by rw [plcJ, ← hkt, hk, plc_nil, List.append_nil]
      have := ih lf (j + 1) oa oc h (nx + 14) (by omega) (by omega) ⟨by omega, x.2⟩ (by omega) er (by rw [hJ]; exact ow.byEq (by omega)) og
      rw [hJ] at this
      exact this
    | nd a1 b1 k1 d1 =>
      have hin := kid_in bi lc hc hj hk
      rw [show kid1 (eq4 q l c (kidsAt q c) j) (.nd a1 b1 k1 d1) = ((eq4 q l c (kidsAt q c) j : Nat) : Int) from rfl, if_pos (decide_eq_true (by omega)), ld_at er (v := .slice ka 4 kc) rfl]
      simp only [mst_]
      -- the slice of kids lies somewhere
      obtain ⟨p, blk, rfl, hp, eb0, _, _, hq⟩ := (sk.ext xx).2 j hj
      rw [hk] at hkid
      have hcell : blk.cells[p.2 + j]? = some (.int .i64 ((eq4 q l c (kidsAt q c) j : Nat) : Int)) := by rw [hq j (by omega)]; exact hkid
      simp only [mst_]
      rw [if_pos ⟨by omega, by omega⟩, Int.toNat_natCast, Nat.mul_one, ldA_at eb0 hcell]
      simp only [mst_]
      rw [ld_at er (v := .int .i64 ((l + 1 : Nat) : Int)) rfl]
      simp only [mst_]
      rw [show wrapA .i64 (((l + 1 : Nat) : Int) - 1) = (l : Int) by rw [wA (by omega) (by omega)]; omega, Room_spec hf Y (by omega)]
      simp only [mst_]
      have hb2 : wrapA .i64 ((base : Int) + wrapA .i64 ((j : Int) * (room l : Int))) = ((base + j * room l : Nat) : Int) := by
        have e1 : (j : Int) * (room l : Int) = ((j * room l : Nat) : Int) := by push_cast; rfl
        rw [e1, wA (x := ((j * room l : Nat) : Int)) (by omega) (by omega), wA (by omega) (by omega)]; omega
      rw [hb2]
      obtain ⟨a2, c2, h2, n2, g1, g2, g3, g4⟩ := ps (eq4 q l c (kidsAt q c) j) (base + j * room l) (kidsAt q c j) h (nx + 29 + 5) hin (by rw [hk]; exact fun z => by cases z) (by omega) ⟨by have := xx.1; omega, xx.2⟩
      rw [g1]
      simp only [mst_]
      obtain ⟨rows2, rd2, t1, t2, t3, _⟩ := (g3.rows (A := fun _ => False) (fun _ _ q => q)).srcs
      rw [t3]
      simp only [mst_]
      have ow2 : OwnRows (PlR h0 n0) h2 n2 oa 5 (p0 :: plcJ l base k j) := ow.go (D := fun _ => False) ⟨by have := g2.1; omega, fun i hi _ => g2.2 i (by omega)⟩ (fun _ _ q => q) (fun _ _ r => r)
      have hlj : (plcJ l base k j).length ≤ j * 625 := by
        have : ∀ j, (plcJ l base k j).length ≤ j * 625 := fun j => by
          induction j with
          | zero => simp [plcJ]
          | succ j ihj =>
            rw [plcJ, List.length_append, plc_len_le]
            have h1 := cntT_le l (k j)
            have h2 : 5 ^ (l + 1) ≤ 5 ^ 4 := Nat.pow_le_pow_right (by omega) (by omega)
            omega
        exact this j
      have hlk : (plc l (base + j * room l) (kidsAt q c j)).length ≤ 625 := by
        rw [plc_len_le]
        have h1 := cntT_le l (kidsAt q c j)
        have h2 : 5 ^ (l + 1) ≤ 5 ^ 4 := Nat.pow_le_pow_right (by omega) (by omega)
        omega
      have l2' := g2.1
      obtain ⟨e7, u1, u2, u3, u4, u5⟩ := ow2.app2 oc (bytes := 56) (id := nx + 27) t1 t2 rd2 (growOk_of (by simp only [List.length_cons]; omega) (by omega)) (fun q => by have := ow.lt q; omega) (m := n2) (Nat.le_refl _) (by omega)
      rw [u1]
      simp only [mst_]
      rw [ifKept_pos (by exact ⟨fun _ _ => rfl, fun _ _ => rfl, trivial⟩), u2, wsucc (i := j) (by omega)]
      have hJ : p0 :: plcJ l base k (j + 1) = (p0 :: plcJ l base k j) ++ plc l (base + j * room l) (kidsAt q c j) := by rw [plcJ, ← hkt]; rfl
      have hlen : (p0 :: plcJ l base k j).length + (plc l (base + j * room l) (kidsAt q c j)).length = (p0 :: plcJ l base k (j + 1)).length := by rw [hJ, List.length_append]
      rw [hlen]
      have fr : Frm (fun i => ownOf oa i ∨ i = nx + 27) h2 n2 (h2.puts e7.sets) (n2 + 3) := u4.le (by omega)
      refine ih lf (j + 1) e7.a e7.c _ (n2 + 3) (by omega) (by omega) ⟨by omega, fun i hi => ?_⟩ (by omega) ?_ (by rw [hJ]; exact u3.byEq (by omega)) (fun i q => ?_)
      · rw [fr.2 i (by omega) (fun q => by
          rcases q with q | q
          · have := (og i q).1; omega
          · omega), g2.2 i (by omega), x.2 i hi]
      · rw [fr.2 rb (by omega) (fun q => by
          rcases q with q | q
          · exact (og rb q).2 rfl
          · omega), g2.2 rb (by omega)]; exact er
      · rcases u5 i q with q | q
        · exact og i q
        · exact ⟨by omega, by omega⟩

theorem pl_one {q : List (Nat × Tr)} {N : List NRec} {h0 : AHeap} {n0 : Nat} {a : Option (Nat × Nat)} {ac : Bool} {Y : YldF} {f l : Nat} (hf : 10 ≤ f) (bi : BI q.length q N) (rows : Rows (NodR h0 n0 fun _ => False) h0 n0 (fun _ => False) a 5 N) (l3 : l ≤ 3) (ps : ∀ l', l = l' + 1 → PS q N h0 n0 a ac Y f l') : PS q N h0 n0 a ac Y (f + 1) l := by
  intro c base t h nx hc hnn hb x
  have lc : c < q.length := (List.getElem?_eq_some_iff.1 hc).1
  have hNl := bi.ln
  have lx := x.1
  have hrec := (bi.rc c _ lc hc).1
  have rowsx := rows.go (x.fr fun _ => False) (fun _ _ q => q) (fun _ _ q => q) (fun _ _ r => r)
  obtain ⟨r, ⟨kv, dv, rfl, hk, hd⟩, _, rd, _⟩ := rowsx.read (R := Res) hrec
  rw [F13_eq, rd]
  obtain ⟨ka, kc, rfl, sk, _⟩ := hk
  obtain ⟨da, dc, rfl, sd, sdv⟩ := hd
  cases t with
  | nil => exact absurd rfl hnn
  | nd id bt k ds =>
    have hid : (recOf (mq q c) (l, .nd id bt k ds)).id = id := by cases l <;> rfl
    have hbi : (recOf (mq q c) (l, .nd id bt k ds)).birth = bt := by cases l <;> rfl
    have hlv : (recOf (mq q c) (l, .nd id bt k ds)).lv = l := by cases l <;> rfl
    rw [hid, hbi, hlv]
    simp only [mst_, mst5]
    rw [st_all (put_same h (nx + 5) _) (by simp) (by simp) (by simp [allOne, AV.one]), put_put]
    have er := put_same h (nx + 5) (some ⟨[.int .i64 (id : Int), .int .i64 (bt : Int), .int .i64 (l : Int), .slice ka (recOf (mq q c) (l, .nd id bt k ds)).kids.length kc, .slice da (recOf (mq q c) (l, .nd id bt k ds)).data.length dc], 5, true⟩)
    have x1 : Ext h nx (h.put (nx + 5) (some ⟨[.int .i64 (id : Int), .int .i64 (bt : Int), .int .i64 (l : Int), .slice ka (recOf (mq q c) (l, .nd id bt k ds)).kids.length kc, .slice da (recOf (mq q c) (l, .nd id bt k ds)).data.length dc], 5, true⟩)) (nx + 6) := ⟨by omega, fun i hi => put_ne (by omega)⟩
    generalize h.put (nx + 5) (some ⟨[.int .i64 (id : Int), .int .i64 (bt : Int), .int .i64 (l : Int), .slice ka (recOf (mq q c) (l, .nd id bt k ds)).kids.length kc, .slice da (recOf (mq q c) (l, .nd id bt k ds)).data.length dc], 5, true⟩) = h1 at *
    rw [ld_at er (v := .int .i64 (l : Int)) rfl]
    simp only [mst_]
    rw [ld_at er (v := .int .i64 (id : Int)) rfl]
    simp only [mst_]
    rw [ld_at er (v := .int .i64 (bt : Int)) rfl]
    simp only [mst_]
    rw [ld_at er (v := .slice da (recOf (mq q c) (l, .nd id bt k ds)).data.length dc) rfl]
    simp only [mst_]
    generalize hh2 : h1.put (nx + 17) _ = h2
    have x2 : Ext h nx h2 (nx + 20) := ⟨by omega, fun i hi => by rw [← hh2, put_ne (by omega), x1.2 i hi]⟩
    have er2 : h2 (nx + 5) = some ⟨[.int .i64 (id : Int), .int .i64 (bt : Int), .int .i64 (l : Int), .slice ka (recOf (mq q c) (l, .nd id bt k ds)).kids.length kc, .slice da (recOf (mq q c) (l, .nd id bt k ds)).data.length dc], 5, true⟩ := by rw [← hh2, put_ne (by omega)]; exact er
    have e17 : h2 (nx + 17) = some ⟨[.int .i64 (l : Int), .int .i64 (base : Int), .int .i64 (id : Int), .int .i64 (bt : Int), .slice da (recOf (mq q c) (l, .nd id bt k ds)).data.length dc], 5, true⟩ := by rw [← hh2, put_same]
    have o2 : ∀ p : Pl, p.lv = l → p.base = base → p.id = id → p.birth = bt → p.data = (recOf (mq q c) (l, .nd id bt k ds)).data → OwnRows (PlR h0 n0) h2 (nx + 20) (some (nx + 17, 0)) 5 [p] := fun p p1 p2 p3 p4 p5 =>
      ⟨[[.int .i64 (l : Int), .int .i64 (base : Int), .int .i64 (id : Int), .int .i64 (bt : Int), .slice da (recOf (mq q c) (l, .nd id bt k ds)).data.length dc]], All2.one ⟨_, by rw [p1, p2, p3, p4], by rw [p5]; exact ⟨da, dc, rfl, sd, sdv⟩⟩, by simp, .inr ⟨nx + 17, rfl, by omega, by rw [e17]; rfl⟩⟩
    cases l with
    | zero =>
      have hkl : (recOf (mq q c) (0, .nd id bt k ds)).kids.length = 0 := rfl
      rw [hkl] at er2
      obtain ⟨f, rfl⟩ : ∃ m, f = m + 1 := ⟨f - 1, by omega⟩
      rw [F13_L1_eq]
      simp only [mst_]
      rw [Nat.zero_add, ld_at er2 (v := .slice ka 0 kc) rfl]
      simp only [mst_]
      rw [if_neg (by rw [decide_eq_true_eq]; omega)]
      exact ⟨_, _, _, _, rfl, ⟨by omega, x2.2⟩, (o2 ⟨0, base, id, bt, datL ds⟩ rfl rfl rfl rfl rfl).byEq (by omega), fun i q => by have := own_some q; omega⟩
    | succ l =>
      have hkl : (recOf (mq q c) (l + 1, .nd id bt k ds)).kids.length = 4 := ki_len _ _ _ _
      have hdl : (recOf (mq q c) (l + 1, .nd id bt k ds)).data.length = 0 := rfl
      rw [hkl, hdl] at er2
      rw [hkl] at sk
      have hkt : kidsAt q c = k := by unfold kidsAt; rw [List.getD_eq_getElem?_getD, hc]; rfl
      obtain ⟨a2, c2, h', nx', r1, r2, r3, r4⟩ := pl_kids (f := f) (g := f) (ac := ac) (Y := Y) (by omega) bi (ps l rfl) (by omega) hc hb (hS := h) (nS := nx) x (rb := nx + 5) (by omega) (ka := ka) (kc := kc) (dv := da) (dc := dc) (by rw [hkt]; exact sk) ⟨l + 1, base, id, bt, []⟩ 4 f 0 (some (nx + 17, 0)) true h2 (nx + 20) (by omega) (by omega) x2 (by omega) er2 (o2 ⟨l + 1, base, id, bt, []⟩ rfl rfl rfl rfl rfl) (fun i q => by have := own_some q; omega)
      rw [plc_J]
      exact ⟨a2, c2, h', nx', r1, r2, r3, r4⟩

theorem pl_all {q : List (Nat × Tr)} {N : List NRec} {h0 : AHeap} {n0 : Nat} {a : Option (Nat × Nat)} {ac : Bool} {Y : YldF} (bi : BI q.length q N) (rows : Rows (NodR h0 n0 fun _ => False) h0 n0 (fun _ => False) a 5 N) : ∀ (l f : Nat), l ≤ 3 → 11 + l ≤ f → PS q N h0 n0 a ac Y f l
  | 0, f, h, hf => by
    obtain ⟨f, rfl⟩ : ∃ m, f = m + 1 := ⟨f - 1, by omega⟩
    exact pl_one (by omega) bi rows (by omega) (fun l' e => by omega)
  | l + 1, f, h, hf => by
    obtain ⟨f, rfl⟩ : ∃ m, f = m + 1 := ⟨f - 1, by omega⟩
    exact pl_one (by omega) bi rows (by omega) (fun l' e => by obtain rfl : l = l' := (by omega); exact pl_all bi rows l f (by omega) (by omega))

end Go.Proofs.Ytogmdfbamgjjfaa.T
