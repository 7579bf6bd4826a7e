/- Trees: spread. -/
import Derived.Test.YtogmdfbamgjjfaaH21
set_option linter.unusedVariables false
set_option linter.unusedSimpArgs false
namespace Go.Proofs.Ytogmdfbamgjjfaa.T
open Go Go.RowKit Go.Proofs

theorem Room_spec {f : Nat} (hf : 1 ≤ f) (Y : YldF) {l : Nat} (hl : l ≤ 6) (h : AHeap) (nx : Nat) : callP Try.prog keepT f Y 14 [.int .i64 (l : Int)] h nx = some (.int .i64 (room l : Int), h, nx + 5) := by
  obtain ⟨f, rfl⟩ : ∃ m, f = m + 1 := ⟨f - 1, by omega⟩
  have hw : wrapA .i64 (2 * (l : Int)) = ((2 * l : Nat) : Int) := by rw [wA (by omega) (by omega)]; omega
  rw [F14_eq, hw, if_neg (by omega), Int.toNat_natCast]
  have hm : min (2 * l) (IntKind.bits .i64) = 2 * l := by show min (2 * l) 64 = 2 * l; omega
  have he : (64 : Int) * 2 ^ (2 * l) = (room l : Int) := by
    rw [Int.pow_mul]; unfold room; push_cast; rfl
  rw [hm, he, wA (by omega) (by have := room_le hl; omega)]

def rowI (n : Nat) (s : Nat → Nat) : List AV := (List.range n).map fun y => .int .i64 (s y : Int)
theorem rowI_len (n : Nat) (s : Nat → Nat) : (rowI n s).length = n := by simp [rowI]
theorem rowI_at {n y : Nat} (s : Nat → Nat) (h : y < n) : (rowI n s)[y]? = some (.int .i64 (s y : Int)) := by simp [rowI, h]
theorem rowI_set {n e : Nat} (s : Nat → Nat) : (rowI n s).set e (.int .i64 ((s e + 1 : Nat) : Int)) = rowI n (fun y => s y + if y = e then 1 else 0) := by
  apply List.ext_getElem?
  intro j
  rw [List.getElem?_set]
  by_cases c : e = j
  · subst c
    rw [if_pos rfl]
    by_cases hj : e < n
    · rw [if_pos (by rw [rowI_len]; exact hj), rowI_at _ hj, if_pos rfl]
    · rw [if_neg (by rw [rowI_len]; exact hj), List.getElem?_eq_none (by rw [rowI_len]; omega)]
  · rw [if_neg c]
    by_cases hj : j < n
    · rw [rowI_at _ hj, rowI_at _ hj, if_neg (fun q => c q.symm), Nat.add_zero]
    · rw [List.getElem?_eq_none (by rw [rowI_len]; omega), List.getElem?_eq_none (by rw [rowI_len]; omega)]
theorem rowI_congr {n : Nat} {a b : Nat → Nat} (h : ∀ y, y < n → a y = b y) : rowI n a = rowI n b := by
  apply List.ext_getElem?
  intro j
  by_cases c : j < n
  · rw [rowI_at _ c, rowI_at _ c, h j c]
  · rw [List.getElem?_eq_none (by rw [rowI_len]; omega), List.getElem?_eq_none (by rw [rowI_len]; omega)]

def cnJ (q : List (Nat × Tr)) (l c y : Nat) : Nat → Nat
  | 0 => 0
  | J + 1 => cnJ q l c y J + pick1 (kidsAt q c J) ((if y = eq4 q l c (kidsAt q c) J then 1 else 0) + cn q l (eq4 q l c (kidsAt q c) J) y)
theorem cn_J (q : List (Nat × Tr)) (l c y : Nat) : cn q (l + 1) c y = cnJ q l c y 4 := by simp only [cn, cnJ, Nat.zero_add]
theorem cnJ_le (q : List (Nat × Tr)) (l c y : Nat) {J : Nat} (h : J ≤ 4) : cnJ q l c y J ≤ cnJ q l c y 4 := by
  have : ∀ a b, cnJ q l c y a ≤ cnJ q l c y (a + b) := fun a b => by
    induction b with
    | zero => exact Nat.le_refl _
    | succ b ih => rw [← Nat.add_assoc, cnJ]; omega
  have := this J (4 - J)
  rwa [show J + (4 - J) = 4 by omega] at this
theorem cont_kid {l : Nat} {t : Tr} {j x : Nat} (hx : x < room l) : cont (l + 1) t (j * room l + x) = cont l (t.kids j) x := by
  have hp := room_pos l
  simp only [cont]
  rw [Nat.mul_comm, Nat.mul_add_div hp, Nat.div_eq_of_lt hx, Nat.mul_add_mod, Nat.mod_eq_of_lt hx, Nat.add_zero]

/-- A leaf's bytes are laid out. -/
theorem lf_loop {f : Nat} {Y : YldF} {g base n rb ob : Nat} {c : Bool} {ds : Nat → Int} {da : Option (Nat × Nat)} {dc : Bool} {id bi : Int} {kv : AV} {n0 : Nat} (hn : n ≤ 100000) (hb : base + 64 ≤ n) (hrb : rb ≠ ob) (hob : n0 ≤ ob) (out : Nat → Int) (d : Nat) :
    ∀ (lf i : Nat) (o1 : Nat → Int) (h : AHeap) (nx : Nat), i + d = 64 → d < lf → Sl h n0 da 64 1 (ints .u8 (datL ds)) → h rb = some ⟨[.int .i64 id, .int .i64 bi, .int .i64 0, kv, .slice da 64 dc], 5, true⟩ → (∀ x, x < n → o1 x = if base ≤ x ∧ x < base + i then ds (x - base) else out x) → h ob = some ⟨rowB n o1, 1, true⟩ →
      ∃ h' nx', F19_L4 (callP Try.prog keepT f) Y g lf (base : Int) (some (ob, 0)) n c (some (rb, 0)) (i : Int) h nx = some (.bool true, h', nx') ∧ nx ≤ nx' ∧ (∀ j, j ≠ ob → h' j = h j) ∧ h' ob = some ⟨rowB n (fun x => if base ≤ x ∧ x < base + 64 then ds (x - base) else out x), 1, true⟩ := by
  induction d with
  | zero =>
    intro lf i o1 h nx e hl sd er h1 hv
    obtain ⟨lf, rfl⟩ : ∃ m, lf = m + 1 := ⟨lf - 1, by omega⟩
    obtain rfl : i = 64 := by omega
    rw [F19_L4_eq, if_neg (by decide)]
    exact ⟨_, _, rfl, by omega, fun _ _ => rfl, by rw [hv, rowB_congr h1]⟩
  | succ d ih =>
    intro lf i o1 h nx e hl sd er h1 hv
    obtain ⟨lf, rfl⟩ : ∃ m, lf = m + 1 := ⟨lf - 1, by omega⟩
    have hw : wrapA .i64 ((base : Int) + (i : Int)) = ((base + i : Nat) : Int) := by rw [wA (by omega) (by omega)]; omega
    rw [F19_L4_eq, if_pos (decide_eq_true (by omega)), hw, if_pos (decide_eq_true (by omega)), F19_J6_eq]
    simp only [mst_]
    rw [Nat.zero_add, ld_at er (v := .slice da 64 dc) rfl]
    simp only [mst_]
    rw [sd.read0 (v := .int .u8 (ds i)) (i := i) (by omega) (by omega) (by omega) (by rw [datL_cells, Int.toNat_natCast, Nat.mul_one]; exact dat_at ds (by omega))]
    simp only [mst_]
    rw [hw, if_pos ⟨by omega, by omega⟩, Int.toNat_natCast, Nat.mul_one, Nat.zero_add, st_to hv rfl (by rw [rowB_len]; omega) (rowB_set o1 _), wsucc (i := i) (by omega)]
    have av : ∀ p, da = some p → p.1 < n0 := fun p ep => by
      obtain ⟨p', b, e1, e2, _⟩ := sd.2 0 (by omega)
      rw [ep] at e1; obtain rfl := Option.some.inj e1; exact e2
    obtain ⟨h', nx', r1, r2, r3, r4⟩ := ih lf (i + 1) (up o1 (base + i) (ds i)) (h.put ob (some ⟨rowB n (up o1 (base + i) (ds i)), 1, true⟩)) (nx + 10 + 14) (by omega) (by omega) (sd.ext ⟨Nat.le_refl _, fun j hj => put_ne (by omega)⟩) ((put_ne hrb).trans er) (fun x hx => by
        by_cases c3 : x = base + i
        · subst c3; rw [up_same, if_pos ⟨by omega, by omega⟩, show base + i - base = i by omega]
        · rw [up_ne c3, h1 x hx]
          by_cases c4 : base ≤ x ∧ x < base + i
          · rw [if_pos c4, if_pos ⟨by omega, by omega⟩]
          · rw [if_neg c4, if_neg (by omega)]) (put_same _ _ _)
    exact ⟨h', nx', r1, by omega, fun j hj => (r3 j hj).trans (put_ne hj), r4⟩

/-- What stays fixed while a list of nodes is walked. -/
structure SF (q : List (Nat × Tr)) (N : List NRec) (h0 : AHeap) (n0 : Nat) (a : Option (Nat × Nat)) (ob sb n : Nat) : Prop where
  bi : BI q.length q N
  rows : Rows (NodR h0 n0 fun _ => False) h0 n0 (fun _ => False) a 5 N
  hob : n0 ≤ ob
  hsb : n0 ≤ sb
  ne : ob ≠ sb
  hn : n ≤ 10000
  hM : N.length ≤ 10000
def SP (q : List (Nat × Tr)) (N : List NRec) (h0 : AHeap) (n0 : Nat) (a : Option (Nat × Nat)) (ac oc sc : Bool) (ob sb n : Nat) (Y : YldF) (f l : Nat) : Prop :=
  ∀ (c base b : Nat) (t : Tr) (out : Nat → Int) (s : Nat → Nat) (h : AHeap) (nx : Nat), q[c]? = some (l, t) → Gd (l + 1) b t → t ≠ .nil → base + room l ≤ n → (∀ x, base ≤ x → x < base + room l → out x = 0) → (∀ y, y < N.length → s y + cn q l c y ≤ 1) → Ext h0 n0 h nx → ob < nx → sb < nx → h ob = some ⟨rowB n out, 1, true⟩ → h sb = some ⟨rowI N.length s, 1, true⟩ →
    ∃ h' nx', callP Try.prog keepT f Y 19 [.slice a N.length ac, .int .i64 (c : Int), .int .i64 (base : Int), .slice (some (ob, 0)) n oc, .slice (some (sb, 0)) N.length sc] h nx = some (.bool true, h', nx') ∧ nx ≤ nx' ∧ (∀ j, j < nx → j ≠ ob → j ≠ sb → h' j = h j) ∧
      h' ob = some ⟨rowB n (fun x => if base ≤ x ∧ x < base + room l then cont l t (x - base) else out x), 1, true⟩ ∧ h' sb = some ⟨rowI N.length (fun y => s y + cn q l c y), 1, true⟩

theorem sp_kids {q : List (Nat × Tr)} {N : List NRec} {h0 : AHeap} {n0 : Nat} {a : Option (Nat × Nat)} {ac oc sc : Bool} {ob sb n : Nat} {Y : YldF} {f l : Nat} (hf : 1 ≤ f) (w : SF q N h0 n0 a ob sb n) (sp : SP q N h0 n0 a ac oc sc ob sb n Y f l) (l2 : l ≤ 2) {g c base b : Nat} {t : Tr} (hc : q[c]? = some (l + 1, t)) (gd : Gd (l + 2) b t) (hb : base + room (l + 1) ≤ n) {out : Nat → Int} (hout : ∀ x, base ≤ x → x < base + room (l + 1) → out x = 0) {s : Nat → Nat} (hs : ∀ y, y < N.length → s y + cn q (l + 1) c y ≤ 1)
    {rb : Nat} (hrb : rb ≠ ob) (hrs : rb ≠ sb) {ka dv : Option (Nat × Nat)} {kc dc : Bool} (sk : Sl h0 n0 ka 4 1 (ints .i64 (ki (mq q c) l (kidsAt q c) 4))) (d : Nat) :
    ∀ (lf j : Nat) (h : AHeap) (nx : Nat), j + d = 4 → d < lf → Ext h0 n0 h nx → ob < nx → sb < nx → rb < nx → h rb = some ⟨[.int .i64 (t.id : Int), .int .i64 (t.bi : Int), .int .i64 ((l + 1 : Nat) : Int), .slice ka 4 kc, .slice dv 0 dc], 5, true⟩ →
      h ob = some ⟨rowB n (fun x => if base ≤ x ∧ x < base + j * room l then cont (l + 1) t (x - base) else out x), 1, true⟩ → h sb = some ⟨rowI N.length (fun y => s y + cnJ q l c y j), 1, true⟩ →
      ∃ h' nx', F19_L5 (callP Try.prog keepT f) Y g lf a N.length ac (c : Int) (base : Int) (some (ob, 0)) n oc (some (sb, 0)) N.length sc (some (rb, 0)) (j : Int) h nx = some (.bool true, h', nx') ∧ nx ≤ nx' ∧ (∀ i, i < nx → i ≠ ob → i ≠ sb → h' i = h i) ∧
        h' ob = some ⟨rowB n (fun x => if base ≤ x ∧ x < base + room (l + 1) then cont (l + 1) t (x - base) else out x), 1, true⟩ ∧ h' sb = some ⟨rowI N.length (fun y => s y + cn q (l + 1) c y), 1, true⟩ := by
  have hr1 := room_succ l
  have hrl := room3_le (show l ≤ 3 by omega)
  have lc : c < q.length := (List.getElem?_eq_some_iff.1 hc).1
  have hkt : kidsAt q c = t.kids := by unfold kidsAt; rw [List.getD_eq_getElem?_getD, hc]; rfl
  have hM := w.hM
  have hn := w.hn
  have hNl := w.bi.ln
  induction d with
  | zero =>
    intro lf j h nx e hl x lo ls lr er eo es
    obtain ⟨lf, rfl⟩ : ∃ m, lf = m + 1 := ⟨lf - 1, by omega⟩
    obtain rfl : j = 4 := by omega
    rw [F19_L5_eq, if_neg (by decide)]
    refine ⟨_, _, rfl, by omega, fun _ _ _ _ => rfl, by rw [eo, hr1], ?_⟩
    rw [es]; congr 2; exact rowI_congr (fun y _ => by rw [cn_J])
  | succ d ih =>
    intro lf j h nx e hl x lo ls lr er eo es
    obtain ⟨lf, rfl⟩ : ∃ m, lf = m + 1 := ⟨lf - 1, by omega⟩
    have hj : j < 4 := by omega
    have hjr : j * room l + room l ≤ room (l + 1) := by
      rw [hr1]
      have : (j + 1) * room l ≤ 4 * room l := Nat.mul_le_mul_right _ (by omega)
      rw [Nat.add_mul] at this; omega
    have hj1 : (j + 1) * room l = j * room l + room l := by rw [Nat.add_mul, Nat.one_mul]
    have hkid : (ints .i64 (ki (mq q c) l (kidsAt q c) 4))[j]? = some (.int .i64 (kid1 (eq4 q l c (kidsAt q c) j) (kidsAt q c j))) := by
      rw [ints, List.getElem?_map, ki_get _ _ _ 4 hj]; rfl
    rw [F19_L5_eq, if_pos (decide_eq_true (by omega))]
    simp only [mst_]
    rw [Nat.zero_add, ld_at er (v := .slice ka 4 kc) rfl]
    simp only [mst_]
    rw [(sk.ext x).read0 (i := j) (by omega) (by omega) (by omega) (by rw [Int.toNat_natCast, Nat.mul_one]; exact hkid)]
    simp only [mst_]
    cases hk : kidsAt q c j with
    | nil =>
      rw [show kid1 (eq4 q l c (kidsAt q c) j) .nil = -1 from rfl, if_pos (by decide), wsucc (i := j) (by omega)]
      refine (ih lf (j + 1) h (nx + 13) (by omega) (by omega) ⟨by have := x.1; omega, x.2⟩ (by omega) (by omega) (by omega) er ?_ ?_).imp fun h' r => r.imp fun nx' r => ⟨r.1, by omega, fun i hi => r.2.2.1 i (by omega), r.2.2.2⟩
      · rw [eo]; congr 2; refine rowB_congr fun y hy => ?_
        by_cases c1 : base ≤ y ∧ y < base + j * room l
        · rw [if_pos c1, if_pos ⟨c1.1, by omega⟩]
        · by_cases c2 : base ≤ y ∧ y < base + (j + 1) * room l
          · rw [if_neg c1, if_pos c2, hout y c2.1 (by omega)]
            obtain ⟨z, rfl⟩ : ∃ z, y = base + (j * room l + z) := ⟨y - base - j * room l, by omega⟩
            rw [Nat.add_sub_cancel_left, cont_kid (by omega), ← hkt, hk, cont_nil]
          · rw [if_neg c1, if_neg c2]
      · rw [es]; congr 2; refine rowI_congr fun y _ => ?_
        rw [cnJ, hk]; rfl
    | nd a1 b1 k1 d1 =>
      have hin := kid_in w.bi lc hc hj hk
      obtain ⟨E, hE⟩ : ∃ E, E = eq4 q l c (kidsAt q c) j := ⟨_, rfl⟩
      rw [← hE] at hin
      have lE : E < q.length := (List.getElem?_eq_some_iff.1 hin).1
      have hcE : c < E := by have := (w.bi.rc c _ lc hc).2.1; rw [hE]; unfold eq4; omega
      rw [show kid1 (eq4 q l c (kidsAt q c) j) (.nd a1 b1 k1 d1) = (E : Int) by rw [hE]; rfl, if_neg (by simp), if_neg (by rw [decide_eq_true_eq]; omega), if_neg (by rw [decide_eq_true_eq]; omega)]
      have hrec := (w.bi.rc E _ lE hin).1
      have rowsx := w.rows.go (x.fr fun _ => False) (fun _ _ q => q) (fun _ _ q => q) (fun _ _ r => r)
      obtain ⟨r, ⟨kv, dv', rfl, _, _⟩, _, _, rd⟩ := rowsx.read (R := Res) hrec
      have hbirth : b1 ≤ t.bi := by
        cases t with
        | nil => rw [hkt] at hk; cases hk
        | nd id bi k ds =>
          have := gd.2 j hj
          rw [hkt] at hk
          simp only [Tr.kids] at hk
          rw [hk] at this
          exact this.1
      have hlvE : (recOf (mq q E) (l, kidsAt q c j)).lv = l := by cases l <;> rfl
      have hbE : (recOf (mq q E) (l, kidsAt q c j)).birth = b1 := by rw [hk]; cases l <;> rfl
      rw [rd 2 (.int .i64 (l : Int)) _ (by omega) (by rw [hlvE]; rfl)]
      simp only [mst_]
      rw [ld_at er (v := .int .i64 ((l + 1 : Nat) : Int)) rfl]
      simp only [mst_]
      have hlw : wrapA .i64 (((l + 1 : Nat) : Int) - 1) = (l : Int) := by rw [wA (by omega) (by omega)]; omega
      rw [hlw, if_neg (by simp), rd 1 (.int .i64 (b1 : Int)) _ (by omega) (by rw [hbE]; rfl)]
      simp only [mst_]
      rw [ld_at er (v := .int .i64 (t.bi : Int)) rfl]
      simp only [mst_]
      rw [if_neg (by rw [decide_eq_true_eq]; omega), F19_J7_eq]
      simp only [mst_]
      -- how often the kid was seen
      have hsE := hs E (by omega)
      rw [cn_J] at hsE
      have hle := cnJ_le q l c E (show j + 1 ≤ 4 by omega)
      have hstep : cnJ q l c E (j + 1) = cnJ q l c E j + (1 + cn q l E E) := by rw [cnJ, hk, ← hE]; simp [pick1]
      have hz : s E + cnJ q l c E j = 0 := by omega
      rw [if_pos ⟨by omega, by omega⟩, Int.toNat_natCast, Nat.mul_one, Nat.zero_add, ld_at es (rowI_at _ (by omega))]
      simp only [mst_]
      rw [if_pos ⟨by omega, by omega⟩, show wrapA .i64 (((s E + cnJ q l c E j : Nat) : Int) + 1) = ((s E + cnJ q l c E j + 1 : Nat) : Int) from wsucc (by omega), st_to es rfl (by rw [rowI_len]; omega) (rowI_set (fun y => s y + cnJ q l c y j)), if_pos ⟨by omega, by omega⟩]
      have es2 := put_same h sb (some ⟨rowI N.length (fun y => s y + cnJ q l c y j + if y = E then 1 else 0), 1, true⟩)
      have x2 : ∀ i, i ≠ sb → (h.put sb (some ⟨rowI N.length (fun y => s y + cnJ q l c y j + if y = E then 1 else 0), 1, true⟩)) i = h i := fun i hi => put_ne hi
      generalize h.put sb (some ⟨rowI N.length (fun y => s y + cnJ q l c y j + if y = E then 1 else 0), 1, true⟩) = h2 at *
      rw [ld_at es2 (v := .int .i64 ((1 : Nat) : Int)) (by rw [rowI_at _ (by omega), if_pos rfl, hz])]
      simp only [mst_]
      have er2 := (x2 rb hrs).trans er
      have eo2 := (x2 ob w.ne).trans eo
      rw [if_neg (by decide), ld_at er2 (v := .int .i64 ((l + 1 : Nat) : Int)) rfl]
      simp only [mst_]
      rw [hlw, Room_spec hf Y (by omega)]
      simp only [mst_]
      have hb2 : wrapA .i64 ((base : Int) + wrapA .i64 ((j : Int) * (room l : Int))) = ((base + j * room l : Nat) : Int) := by
        have e1 : (j : Int) * (room l : Int) = ((j * room l : Nat) : Int) := by push_cast; rfl
        rw [e1, wA (x := ((j * room l : Nat) : Int)) (by omega) (by omega), wA (by omega) (by omega)]; omega
      rw [hb2]
      have hx2 : Ext h0 n0 h2 nx := ⟨x.1, fun i hi => (x2 i (by have := w.hsb; omega)).trans (x.2 i hi)⟩
      obtain ⟨h3, n3, g1, g2, g3, g4, g5⟩ := sp E (base + j * room l) b1 (kidsAt q c j) (fun x => if base ≤ x ∧ x < base + j * room l then cont (l + 1) t (x - base) else out x) (fun y => s y + cnJ q l c y j + if y = E then 1 else 0) h2 (nx + 13 + 27 + 28 + 5) hin (by
          cases t with
          | nil => rw [hkt] at hk; cases hk
          | nd id bi k ds =>
            have := gd.2 j hj
            rw [hkt] at hk ⊢
            simp only [Tr.kids] at hk ⊢
            rw [hk] at this ⊢
            exact ⟨Nat.le_refl _, this.2⟩) (by rw [hk]; exact fun z => by cases z) (by omega) (fun y h1 h2 => by rw [if_neg (by omega)]; exact hout y (by omega) (by omega)) (fun y hy => by
          have a1 := hs y hy
          rw [cn_J] at a1
          have a2 := cnJ_le q l c y (show j + 1 ≤ 4 by omega)
          have a3 : cnJ q l c y (j + 1) = cnJ q l c y j + ((if y = E then 1 else 0) + cn q l E y) := by rw [cnJ, hk, ← hE]; rfl
          omega) ⟨by have := hx2.1; omega, hx2.2⟩ (by omega) (by omega) eo2 es2
      rw [g1]
      simp only [mst_]
      rw [wsucc (i := j) (by omega)]
      refine (ih lf (j + 1) h3 (n3 + 3) (by omega) (by omega) ⟨by have := hx2.1; omega, fun i hi => ?_⟩ (by omega) (by omega) (by omega) ?_ ?_ ?_).imp fun h' r => r.imp fun nx' r => ⟨r.1, by omega, fun i hi io is => by rw [r.2.2.1 i (by omega) io is, g3 i (by omega) io is, x2 i is], r.2.2.2⟩
      · have := w.hob; have := w.hsb; have := hx2.1
        rw [g3 i (by omega) (by omega) (by omega), hx2.2 i hi]
      · rw [g3 rb (by omega) hrb hrs]; exact er2
      · rw [g4]; congr 2; refine rowB_congr fun y hy => ?_
        by_cases c1 : base + j * room l ≤ y ∧ y < base + j * room l + room l
        · rw [if_pos c1, if_pos ⟨by omega, by omega⟩]
          obtain ⟨z, rfl⟩ : ∃ z, y = base + (j * room l + z) := ⟨y - base - j * room l, by omega⟩
          rw [Nat.add_sub_cancel_left, cont_kid (by omega), hkt, show base + (j * room l + z) - (base + j * room l) = z by omega]
        · rw [if_neg c1]
          by_cases c2 : base ≤ y ∧ y < base + j * room l
          · rw [if_pos c2, if_pos ⟨c2.1, by omega⟩]
          · rw [if_neg c2, if_neg (by omega)]
      · rw [g5]; congr 2; refine rowI_congr fun y _ => ?_
        have a3 : cnJ q l c y (j + 1) = cnJ q l c y j + ((if y = E then 1 else 0) + cn q l E y) := by rw [cnJ, hk, ← hE]; rfl
        rw [a3]; omega

theorem sp_one {q : List (Nat × Tr)} {N : List NRec} {h0 : AHeap} {n0 : Nat} {a : Option (Nat × Nat)} {ac oc sc : Bool} {ob sb n : Nat} {Y : YldF} {f l : Nat} (hf : 80 ≤ f) (w : SF q N h0 n0 a ob sb n) (l3 : l ≤ 3) (sp : ∀ l', l = l' + 1 → SP q N h0 n0 a ac oc sc ob sb n Y f l') : SP q N h0 n0 a ac oc sc ob sb n Y (f + 1) l := by
  intro c base b t out s h nx hc gd hnn hb hout hs x lo ls eo es
  have lc : c < q.length := (List.getElem?_eq_some_iff.1 hc).1
  have hNl := w.bi.ln
  have hM := w.hM
  have hn := w.hn
  have lx := x.1
  have hob := w.hob
  have hsb := w.hsb
  have hrec := (w.bi.rc c _ lc hc).1
  have rowsx := w.rows.go (x.fr fun _ => False) (fun _ _ q => q) (fun _ _ q => q) (fun _ _ r => r)
  obtain ⟨r, ⟨kv, dv, rfl, hk, hd⟩, _, rd, _⟩ := rowsx.read (R := Res) hrec
  rw [F19_eq, rd]
  obtain ⟨ka, kc, rfl, sk, _⟩ := hk
  obtain ⟨da, dc, rfl, sd, _⟩ := hd
  have hid : (recOf (mq q c) (l, t)).id = t.id := by cases l <;> rfl
  have hbi : (recOf (mq q c) (l, t)).birth = t.bi := by cases l <;> rfl
  have hlv : (recOf (mq q c) (l, t)).lv = l := by cases l <;> rfl
  rw [hid, hbi, hlv]
  simp only [mst_, mst5]
  rw [st_all (put_same h (nx + 5) _) (by simp) (by simp) (by simp [allOne, AV.one]), put_put]
  have er := put_same h (nx + 5) (some ⟨[.int .i64 (t.id : Int), .int .i64 (t.bi : Int), .int .i64 (l : Int), .slice ka (recOf (mq q c) (l, t)).kids.length kc, .slice da (recOf (mq q c) (l, t)).data.length dc], 5, true⟩)
  have x1 : Ext h nx (h.put (nx + 5) (some ⟨[.int .i64 (t.id : Int), .int .i64 (t.bi : Int), .int .i64 (l : Int), .slice ka (recOf (mq q c) (l, t)).kids.length kc, .slice da (recOf (mq q c) (l, t)).data.length dc], 5, true⟩)) (nx + 6) := ⟨by omega, fun i hi => put_ne (by omega)⟩
  generalize h.put (nx + 5) (some ⟨[.int .i64 (t.id : Int), .int .i64 (t.bi : Int), .int .i64 (l : Int), .slice ka (recOf (mq q c) (l, t)).kids.length kc, .slice da (recOf (mq q c) (l, t)).data.length dc], 5, true⟩) = h1 at *
  have eo1 := (x1.2 ob lo).trans eo
  have es1 := (x1.2 sb ls).trans es
  have xx : Ext h0 n0 h1 nx := ⟨lx, fun i hi => (x1.2 i (by omega)).trans (x.2 i hi)⟩
  rw [ld_at er (v := .int .i64 (l : Int)) rfl]
  simp only [mst_]
  rw [if_neg (by rw [decide_eq_true_eq]; omega), ld_at er (v := .int .i64 (l : Int)) rfl]
  simp only [mst_]
  rw [if_neg (by rw [decide_eq_true_eq]; omega), F19_J1_eq]
  simp only [mst_]
  rw [Nat.zero_add, ld_at er (v := .int .i64 (l : Int)) rfl]
  simp only [mst_]
  cases l with
  | zero =>
    have hkl : (recOf (mq q c) (0, t)).kids.length = 0 := rfl
    have hdl : (recOf (mq q c) (0, t)).data.length = 64 := datL_len _
    rw [hkl, hdl] at er
    rw [if_pos (by decide), Nat.zero_add, ld_at er (v := .slice ka 0 kc) rfl]
    simp only [mst_]
    rw [if_neg (by decide), Nat.zero_add, ld_at er (v := .slice da 64 dc) rfl]
    simp only [mst_]
    rw [if_neg (by decide), F19_J2_eq]
    rw [hdl] at sd
    obtain ⟨h', nx', r1, r2, r3, r4⟩ := lf_loop (f := f) (Y := Y) (g := f) (base := base) (n := n) (rb := nx + 5) (ob := ob) (c := oc) (ds := t.dat) (da := da) (dc := dc) (n0 := n0) (by omega) (by have : room 0 = 64 := rfl; omega) (by omega) hob out 64 f 0 out h1 (nx + 15 + 13 + 1) (by omega) (by omega) (sd.ext ⟨Nat.le_refl _, fun i hi => xx.2 i hi⟩) er (fun y hy => by rw [if_neg (by omega)]) eo1
    refine ⟨h', nx', r1, by omega, fun j hj j1 j2 => by rw [r3 j j1, x1.2 j hj], ?_, ?_⟩
    · rw [r4]; rfl
    · rw [r3 sb (fun e => w.ne e.symm), es1]; rfl
  | succ l =>
    have hkl : (recOf (mq q c) (l + 1, t)).kids.length = 4 := ki_len _ _ _ _
    have hdl : (recOf (mq q c) (l + 1, t)).data.length = 0 := rfl
    rw [hkl, hdl] at er
    rw [if_neg (by simp; omega), Nat.zero_add, ld_at er (v := .slice ka 4 kc) rfl]
    simp only [mst_]
    rw [if_neg (by decide), Nat.zero_add, ld_at er (v := .slice da 0 dc) rfl]
    simp only [mst_]
    rw [if_neg (by decide), F19_J3_eq]
    rw [hkl] at sk
    have hkt : kidsAt q c = t.kids := by unfold kidsAt; rw [List.getD_eq_getElem?_getD, hc]; rfl
    obtain ⟨h', nx', r1, r2, r3, r4, r5⟩ := sp_kids (f := f) (g := f) (ac := ac) (oc := oc) (sc := sc) (Y := Y) (by omega) w (sp l rfl) (by omega) hc gd hb hout hs (rb := nx + 5) (by omega) (by omega) (ka := ka) (kc := kc) (dv := da) (dc := dc) (by rw [hkt]; exact sk) 4 f 0 h1 (nx + 15 + 13 + 1) (by omega) (by omega) (xx.le (by omega)) (by omega) (by omega) (by omega) er (by rw [eo1]; congr 2; refine rowB_congr fun y hy => ?_; rw [if_neg (by omega)]) (by rw [es1]; congr 2)
    exact ⟨h', nx', r1, by omega, fun j hj j1 j2 => by rw [r3 j (by omega) j1 j2, x1.2 j hj], r4, r5⟩

theorem sp_all {q : List (Nat × Tr)} {N : List NRec} {h0 : AHeap} {n0 : Nat} {a : Option (Nat × Nat)} {ac oc sc : Bool} {ob sb n : Nat} {Y : YldF} (w : SF q N h0 n0 a ob sb n) : ∀ (l f : Nat), l ≤ 3 → 81 + l ≤ f → SP q N h0 n0 a ac oc sc ob sb n Y f l
  | 0, f, h, hf => by
    obtain ⟨f, rfl⟩ : ∃ m, f = m + 1 := ⟨f - 1, by omega⟩
    exact sp_one (by omega) w (by omega) (fun l' e => by omega)
  | l + 1, f, h, hf => by
    obtain ⟨f, rfl⟩ : ∃ m, f = m + 1 := ⟨f - 1, by omega⟩
    exact sp_one (by omega) w (by omega) (fun l' e => by obtain rfl : l = l' := (by omega); exact sp_all w l f (by omega) (by omega))

end Go.Proofs.Ytogmdfbamgjjfaa.T
