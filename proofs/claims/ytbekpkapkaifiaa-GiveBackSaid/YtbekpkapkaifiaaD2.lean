/- A drive: settle. -/
import Derived.Test.YtbekpkapkaifiaaD1
set_option linter.unusedVariables false
set_option linter.unusedSimpArgs false
namespace Go.Proofs.Ytbekpkapkaifiaa.T
open Go Go.RowKit Go.Proofs

/-- What waits comes onto the plate. -/
def settleL (so : Nat → Bool) : List (Nat × List Int) → Nat → List Sec → List Sec
  | [], _, P => P
  | w :: W, k, P => settleL so W (k + 1) (if so k = true then P.set w.1 ⟨some w.2, false⟩ else P)
theorem settleL_len (so : Nat → Bool) : ∀ (W : List (Nat × List Int)) (k : Nat) (P : List Sec), (settleL so W k P).length = P.length
  | [], _, P => rfl
  | w :: W, k, P => by simp only [settleL]; rw [settleL_len so W]; split <;> simp

theorem byt_some {k : IntKind} {h : AHeap} {nx : Nat} {A : Nat → Prop} {v : AV} {bs : List Int} (b : Byt k h nx A v bs) (n : Nat) (l : bs.length = n) (n0 : 0 < n) : ∃ q c, v = .slice (some q) n c ∧ Sl h nx (some q) n 1 (ints k bs) := by
  obtain ⟨a, c, e, s, v⟩ := b
  subst l
  obtain ⟨q, _, e', _⟩ := s.2 0 n0
  subst e'
  exact ⟨q, c, e, s⟩

theorem no_own {i : Nat} (hi : ownOf none i) : False := by obtain ⟨o, e⟩ := hi; simp at e

def PlateAt (h : AHeap) (nx : Nat) (A : Nat → Prop) (pl : Nat) (P : List Sec) : Prop :=
  ∃ rows, All2 (SecR h nx A) P rows ∧ (∀ r ∈ rows, r.length = 2) ∧ h pl = some ⟨rows.flatten, 2, true⟩
theorem PlateAt.go {h h' : AHeap} {nx nx' : Nat} {A A' D : Nat → Prop} {pl : Nat} {P : List Sec} (w : PlateAt h nx A pl P) (f : Frm D h nx h' nx') (d : ∀ i, i < nx → D i → A i) (g : ∀ i, i < nx → A' i → A i) (lp : pl < nx) (n : ¬ D pl) : PlateAt h' nx' A' pl P := by
  obtain ⟨rows, q, len, e⟩ := w
  exact ⟨rows, q.mono fun _ _ r => r.go f d g, len, (f.2 _ lp n).trans e⟩
/-- A sector anew. -/
theorem PlateAt.set {h : AHeap} {nx : Nat} {A : Nat → Prop} {pl : Nat} {P : List Sec} (w : PlateAt h nx A pl P) (ap : A pl) (lp : pl < nx) {i : Nat} {s : Sec} {r : List AV} (hr : SecR h nx A s r) (hi : i < P.length) :
    ∃ cs, h pl = some ⟨cs, 2, true⟩ ∧ i * 2 + r.length ≤ cs.length ∧ r.length = 2 ∧ PlateAt (h.put pl (some ⟨splice cs (i * 2) r, 2, true⟩)) nx A pl (P.set i s) := by
  obtain ⟨rows, q, len, e⟩ := w
  obtain ⟨v, rfl, hv⟩ := hr
  have hl := flat_len len
  rw [q.len] at hl
  have f : Frm (fun j => j = pl) h nx (h.put pl (some ⟨splice rows.flatten (i * 2) [v, .bool s.broken], 2, true⟩)) nx := (Frm.refl _ h nx).put (.inl rfl) (Nat.le_refl _)
  refine ⟨rows.flatten, e, by simp only [List.length_cons, List.length_nil]; omega, rfl, rows.set i [v, .bool s.broken], ?_, ?_, ?_⟩
  · refine All2.mono (fun _ _ r => r.go f (fun j _ e => by rw [e]; exact ap) (fun _ _ a => a)) (q.set i s [v, .bool s.broken] ⟨v, rfl, hv⟩)
  · intro r hr
    rcases List.mem_or_eq_of_mem_set hr with hr | rfl
    · exact len r hr
    · rfl
  · rw [put_same, flat_set len rfl (by rw [q.len]; exact hi)]

theorem settle_loop {f : Nat} {Y : YldF} {so : Nat → Bool} {cf : AV} {A : Nat → Prop} {dv pl : Nat} {W : List (Nat × List Int)} {wa : Option (Nat × Nat)} {h0 : AHeap} {nx0 : Nat}
    (call : ∀ (k : Nat) (h : AHeap) (nx : Nat), k < W.length → Frm (fun i => i = pl) h0 nx0 h nx → ∃ nx', nx ≤ nx' ∧ ∃ cal us vs, asCal cf = some (cal, us, vs) ∧ callC (callP Try.prog keepT f Y) Y cal (us ++ [.int .i64 (k : Int)] ++ vs) h nx = some (.bool (so k), h, nx'))
    {n : Nat} (hW : W.length ≤ 1000) (at_ : ∀ w ∈ W, w.1 < n) (hn : n ≤ 1000) (ld : dv < nx0) (lp : pl < nx0) (n2 : dv ≠ pl) (n3 : ∀ i, ownOf wa i → i ≠ pl) (ap : A pl) (ad : A dv) (aw : ∀ i, ownOf wa i → A i) (wc : Bool) (hrw : OwnRows (PutR h0 nx0 A) h0 nx0 wa 2 W)
    {pc wcc : Bool} {dead : Bool} (hd : h0 dv = some ⟨[.slice (some (pl, 0)) n pc, .slice wa W.length wcc, .bool dead], 3, true⟩) (d : Nat) :
    ∀ (lf k : Nat) (P : List Sec) (h : AHeap) (nx : Nat), k + d = W.length → d < lf → P.length = n → Frm (fun i => i = pl) h0 nx0 h nx → PlateAt h nx A pl P →
      ∃ h' nx', F57_L1 (callP Try.prog keepT f) Y f lf (some (dv, 0)) cf wa W.length wc (W.length : Int) (k : Int) h nx = some (.tuple [], h', nx') ∧ Frm (fun i => i = pl ∨ i = dv) h0 nx0 h' nx' ∧ nx ≤ nx' ∧
        h' dv = some ⟨[.slice (some (pl, 0)) n pc, .slice none 0 false, .bool dead], 3, true⟩ ∧ PlateAt h' nx' A pl (settleL so (W.drop k) k P) := by
  induction d with
  | zero =>
    intro lf k P h nx e hl hP hh hp
    obtain ⟨lf, rfl⟩ : ∃ m, lf = m + 1 := ⟨lf - 1, by omega⟩
    obtain rfl : k = W.length := by omega
    have ed : h dv = some ⟨[.slice (some (pl, 0)) n pc, .slice wa W.length wcc, .bool dead], 3, true⟩ := (hh.2 dv ld n2).trans hd
    have hnx := hh.1
    rw [F57_L1_eq, if_neg (by rw [decide_eq_true_eq]; omega)]
    simp only [bind_some', asI_int, asB_bool, asStr_str, asP_ptr, asSl_sl, asAgg_1, asAgg_2, asAgg_3, asAgg_4, asTup_0, asTup_2, asTup_3, asTup_4, if_true', if_false', if_not_true', if_not_false', getD_0, getD_1, getD_2, getD_3]
    rw [Nat.zero_add, st_to ed rfl (by simp) (cs' := [.slice (some (pl, 0)) n pc, .slice none 0 false, .bool dead]) rfl]
    have fr : Frm (fun i => i = dv) h nx (h.put dv (some ⟨[.slice (some (pl, 0)) n pc, .slice none 0 false, .bool dead], 3, true⟩)) (nx + 5) := (Frm.refl _ h nx).put (.inl rfl) (by omega)
    refine ⟨_, _, rfl, (hh.more fun i _ q => .inl q).trans (D1 := fun i => i = dv) fr (fun i _ q => .inr q), by omega, put_same _ _ _, ?_⟩
    rw [List.drop_length]
    exact hp.go fr (fun i _ q => by rw [q]; exact ad) (fun _ _ a => a) (by omega) (fun q => n2 q.symm)
  | succ d ih =>
    intro lf k P h nx e hl hP hh hp
    obtain ⟨lf, rfl⟩ : ∃ m, lf = m + 1 := ⟨lf - 1, by omega⟩
    have hk : k < W.length := by omega
    have hnx := hh.1
    have rw0 : Rows (PutR h nx A) h nx (fun i => i = pl) wa 2 W := (hrw.go hh n3 fun _ _ r => r.go hh (fun i _ q => by rw [q]; exact ap) (fun _ _ a => a)).rows n3
    obtain ⟨r, pr, _, rd, _⟩ := rw0.read (R := Res) (List.getElem?_eq_getElem hk)
    obtain ⟨v, rfl, wl, b⟩ := pr
    obtain ⟨q, c, rfl, _⟩ := byt_some b 128 wl (by omega)
    have hat := at_ _ (List.getElem_mem hk)
    generalize hw : W[k] = w at *
    have hdrop : W.drop k = w :: W.drop (k + 1) := by rw [List.drop_eq_getElem_cons hk, hw]
    rw [F57_L1_eq, if_pos (decide_eq_true (by omega)), rd]
    simp only [bind_some', asI_int, asB_bool, asStr_str, asP_ptr, asSl_sl, asAgg_1, asAgg_2, asAgg_3, asAgg_4, asTup_0, asTup_2, asTup_3, asTup_4, if_true', if_false', if_not_true', if_not_false', getD_0, getD_1, getD_2, getD_3]
    rw [st_all (put_same h (nx + 4) _) (by simp) (by simp) (by simp [allOne, AV.one]), put_put]
    have fr : Frm (fun _ => False) h nx (h.put (nx + 4) (some ⟨[.int .i64 (w.1 : Int), .slice (some q) 128 c], 2, true⟩)) (nx + 10) := (Frm.refl _ h nx).put (.inr (by omega)) (by omega)
    have hh1 : Frm (fun i => i = pl) h0 nx0 (h.put (nx + 4) (some ⟨[.int .i64 (w.1 : Int), .slice (some q) 128 c], 2, true⟩)) (nx + 10) := hh.trans fr (fun _ _ q => q.elim)
    have p1 : PlateAt (h.put (nx + 4) (some ⟨[.int .i64 (w.1 : Int), .slice (some q) 128 c], 2, true⟩)) (nx + 10) A pl P := hp.go fr (fun _ _ q => q.elim) (fun _ _ a => a) (by omega) (fun q => q)
    have e4 := put_same h (nx + 4) (some ⟨[.int .i64 (w.1 : Int), .slice (some q) 128 c], 2, true⟩)
    have b1 : Byt .u8 (h.put (nx + 4) (some ⟨[.int .i64 (w.1 : Int), .slice (some q) 128 c], 2, true⟩)) (nx + 10) A (.slice (some q) 128 c) w.2 := b.go fr (fun _ _ q => q.elim) (fun _ _ a => a)
    generalize h.put (nx + 4) (some ⟨[.int .i64 (w.1 : Int), .slice (some q) 128 c], 2, true⟩) = h1 at *
    obtain ⟨n1, l1, cal, us, vs, c1, c2⟩ := call k h1 (nx + 10) hk hh1
    rw [c1]
    simp only [bind_some', asI_int, asB_bool, asStr_str, asP_ptr, asSl_sl, asAgg_1, asAgg_2, asAgg_3, asAgg_4, asTup_0, asTup_2, asTup_3, asTup_4, if_true', if_false', if_not_true', if_not_false', getD_0, getD_1, getD_2, getD_3]
    rw [c2]
    simp only [bind_some', asI_int, asB_bool, asStr_str, asP_ptr, asSl_sl, asAgg_1, asAgg_2, asAgg_3, asAgg_4, asTup_0, asTup_2, asTup_3, asTup_4, if_true', if_false', if_not_true', if_not_false', getD_0, getD_1, getD_2, getD_3]
    rw [wsucc (by omega), hdrop]
    cases hso : so k with
    | false =>
      rw [if_false']
      have fr2 : Frm (fun _ => False) h1 (nx + 10) h1 (n1 + 2) := ⟨by omega, fun _ _ _ => rfl⟩
      obtain ⟨h', nx', g1, g2, g2', g3, g4⟩ := ih lf (k + 1) P h1 (n1 + 2) (by omega) (by omega) hP (hh1.le (by omega)) (p1.go fr2 (fun _ _ q => q.elim) (fun _ _ a => a) (by omega) (fun q => q))
      refine ⟨h', nx', g1, g2, by omega, g3, ?_⟩
      simp only [settleL, hso]; exact g4
    | true =>
      rw [if_true']
      have ed : h1 dv = some ⟨[.slice (some (pl, 0)) n pc, .slice wa W.length wcc, .bool dead], 3, true⟩ := (hh1.2 dv ld n2).trans hd
      rw [ld_at ed (v := .slice (some (pl, 0)) n pc) rfl]
      simp only [bind_some', asI_int, asB_bool, asStr_str, asP_ptr, asSl_sl, asAgg_1, asAgg_2, asAgg_3, asAgg_4, asTup_0, asTup_2, asTup_3, asTup_4, if_true', if_false', if_not_true', if_not_false', getD_0, getD_1, getD_2, getD_3]
      rw [ld_at e4 (v := .int .i64 (w.1 : Int)) rfl]
      simp only [bind_some', asI_int, asB_bool, asStr_str, asP_ptr, asSl_sl, asAgg_1, asAgg_2, asAgg_3, asAgg_4, asTup_0, asTup_2, asTup_3, asTup_4, if_true', if_false', if_not_true', if_not_false', getD_0, getD_1, getD_2, getD_3]
      rw [ld_at e4 (v := .slice (some q) 128 c) rfl]
      simp only [bind_some', asI_int, asB_bool, asStr_str, asP_ptr, asSl_sl, asAgg_1, asAgg_2, asAgg_3, asAgg_4, asTup_0, asTup_2, asTup_3, asTup_4, if_true', if_false', if_not_true', if_not_false', getD_0, getD_1, getD_2, getD_3]
      have fr2 : Frm (fun _ => False) h1 (nx + 10) h1 (n1 + 13) := ⟨by omega, fun _ _ _ => rfl⟩
      have p2 := p1.go fr2 (fun _ _ q => q.elim) (fun _ _ a => a) (A' := A) (by omega) (fun q => q)
      have b2 := b1.go fr2 (fun _ _ q => q.elim) (fun _ _ a => a) (A' := A)
      obtain ⟨cs, k1, k2, k3, k4⟩ := p2.set ap (by omega) (i := w.1) (s := ⟨some w.2, false⟩) (r := [.slice (some q) 128 c, .bool false]) ⟨_, rfl, .inr ⟨w.2, rfl, wl, b2⟩⟩ (by omega)
      rw [if_pos ⟨by omega, by omega⟩, Int.toNat_natCast, Nat.zero_add, st_at k1 (n := 2) (v := .agg [.slice (some q) 128 c, .bool false]) rfl k2 rfl]
      have fr3 : Frm (fun i => i = pl) h1 (nx + 10) (h1.put pl (some ⟨splice cs (w.1 * 2) [.slice (some q) 128 c, .bool false], 2, true⟩)) (n1 + 13) := (Frm.refl _ h1 (nx + 10)).put (.inl rfl) (by omega)
      obtain ⟨h', nx', g1, g2, g2', g3, g4⟩ := ih lf (k + 1) (P.set w.1 ⟨some w.2, false⟩) _ (n1 + 13) (by omega) (by omega) (by simpa using hP) (hh1.trans fr3 (fun _ _ q => q)) k4
      refine ⟨h', nx', g1, g2, by omega, g3, ?_⟩
      simp only [settleL, hso, if_true]; exact g4

/-- settle: of what waits, those that are so come onto the plate. -/
theorem settle_spec {f : Nat} {Y : YldF} {so : Nat → Bool} {cf : AV} {h : AHeap} {nx : Nat} {A : Nat → Prop} {dv pl : Nat} {wa : Option (Nat × Nat)} {s : DS} (w : Drv h nx A dv pl wa s) (hf : s.waits.length + 2 ≤ f) (hW : s.waits.length ≤ 1000) (at_ : ∀ x ∈ s.waits, x.1 < s.plate.length) (hn : s.plate.length ≤ 1000)
    (call : ∀ (k : Nat) (h1 : AHeap) (nx1 : Nat), k < s.waits.length → Frm (fun i => i = pl) h nx h1 nx1 → ∃ nx', nx1 ≤ nx' ∧ ∃ cal us vs, asCal cf = some (cal, us, vs) ∧ callC (callP Try.prog keepT (f - 1) Y) Y cal (us ++ [.int .i64 (k : Int)] ++ vs) h1 nx1 = some (.bool (so k), h1, nx')) :
    ∃ h' nx', callP Try.prog keepT f Y 57 [.ptr (some (dv, 0)), cf] h nx = some (.tuple [], h', nx') ∧ Frm (fun i => i = pl ∨ i = dv) h nx h' nx' ∧ Drv h' nx' A dv pl none ⟨settleL so s.waits 0 s.plate, [], s.dead⟩ := by
  obtain ⟨f, rfl⟩ : ∃ m, f = m + 1 := ⟨f - 1, by omega⟩
  obtain ⟨c, wc, ed⟩ := w.hd
  rw [F57_eq]
  simp only [bind_some', asI_int, asB_bool, asStr_str, asP_ptr, asSl_sl, asAgg_1, asAgg_2, asAgg_3, asAgg_4, asTup_0, asTup_2, asTup_3, asTup_4, if_true', if_false', if_not_true', if_not_false', getD_0, getD_1, getD_2, getD_3]
  rw [Nat.zero_add, ld_at ed (v := .slice wa s.waits.length wc) rfl]
  simp only [bind_some', asI_int, asB_bool, asStr_str, asP_ptr, asSl_sl, asAgg_1, asAgg_2, asAgg_3, asAgg_4, asTup_0, asTup_2, asTup_3, asTup_4, if_true', if_false', if_not_true', if_not_false', getD_0, getD_1, getD_2, getD_3]
  have fr : Frm (fun i => i = pl) h nx h (nx + 6) := ⟨by omega, fun _ _ _ => rfl⟩
  obtain ⟨h', nx', g1, g2, g2', g3, g4⟩ := settle_loop (f := f) (Y := Y) (cf := cf) (so := so) (A := A) (dv := dv) (pl := pl) call hW at_ hn w.ld w.lp w.ne (fun i hi => (w.nw i hi).2) w.ap w.ad w.aw wc w.hw ed s.waits.length f 0 s.plate h (nx + 6) (by omega) (by omega) rfl fr
    (PlateAt.go (A := A) w.hp ((Frm.refl (fun _ => False) h nx).le (by omega)) (fun _ _ q => q.elim) (fun _ _ a => a) w.lp (fun q => q))
  rw [show ((0 : Nat) : Int) = 0 from rfl] at g1
  have hle := g2.1
  have g5 : PlateAt h' nx' A pl (settleL so s.waits 0 s.plate) := by simpa using g4
  have l1 := w.ld; have l2 := w.lp
  have g6 : h' dv = some ⟨[.slice (some (pl, 0)) (settleL so s.waits 0 s.plate).length c, .slice none ([] : List (Nat × List Int)).length false, .bool s.dead], 3, true⟩ := by rw [g3, settleL_len]; rfl
  exact ⟨h', nx', g1, g2, ⟨c, false, g6⟩, g5, OwnRows.nil _ _ _ _, by omega, by omega, w.ne, fun i hi => (no_own hi).elim, w.ad, w.ap, fun i hi => (no_own hi).elim⟩

end Go.Proofs.Ytbekpkapkaifiaa.T
