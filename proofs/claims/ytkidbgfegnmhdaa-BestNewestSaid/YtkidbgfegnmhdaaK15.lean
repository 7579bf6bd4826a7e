/- Labels: BestNewest, the rounds. -/
import Derived.Test.YtkidbgfegnmhdaaK14
set_option linter.unusedVariables false
set_option linter.unusedSimpArgs false
namespace Go.Proofs.Ytkidbgfegnmhdaa.T
open Go Go.RowKit Go.Proofs

theorem OwnRows.lt {α : Type} {Q : α → List AV → Prop} {h : AHeap} {nx es : Nat} {a : Option (Nat × Nat)} {l : List α} (w : OwnRows Q h nx a es l) : ∀ i, ownOf a i → i < nx := by
  obtain ⟨rows, _, _, s⟩ := w
  rintro i ⟨o, rfl⟩
  rcases s with ⟨e, _⟩ | ⟨b, e, b1, _⟩
  · cases e
  · cases e; exact b1

theorem bn_loop {f lf : Nat} (hf : 1200 ≤ f) {h0 : AHeap} {n0 : Nat} {x0a x1a x2a : Option (Nat × Nat)} {c0 c1 c2 : List (List AV)}
    (s0 : Sl h0 n0 x0a c0.length 12 c0.flatten) (t0 : ∀ v ∈ c0, Ty h0 n0 TgSh v) (s1 : Sl h0 n0 x1a c1.length 1 c1.flatten) (t1 : ∀ v ∈ c1, Ty h0 n0 .bool v) (s2 : Sl h0 n0 x2a c2.length 1 c2.flatten) (t2 : Junk h0 n0 c2) (d : Nat) :
    ∀ (g k : Nat) (bss : List (List Int)) (a : Option (Nat × Nat)) (c : Option Nat) (h : AHeap) (nx : Nat), k + d = 12 → d < g → bss.length ≤ 2 * k → OwnRows (Cel h nx (ownOf a)) h nx a 1 bss → (∀ i, ownOf a i → n0 ≤ i) → Ext h0 n0 h nx →
      ∃ h' nx', F6_L1 (callP Try.prog keepT f) Y0 lf g x0a c0.length none x1a c1.length none x2a c2.length none a bss.length c (newest bss).1.time (newest bss).2 (k : Int) h nx = some (.bool true, h', nx') := by
  induction d with
  | zero =>
    intro g k bss a c h nx e hg hb w own x
    obtain ⟨g, rfl⟩ : ∃ m, g = m + 1 := ⟨g - 1, by omega⟩
    have w' : OwnRows (Cel h (nx + 8) (ownOf a)) h (nx + 8) a 1 bss := own_mono w (Frm.refl _ _ _) (fun _ _ q => q) ⟨by omega, fun _ _ => rfl⟩
    rw [F6_L1_eq, if_neg (show ¬ decide ((k : Int) < 12) = true by rw [decide_eq_true_eq]; omega), ite_self]
    exact j3_end hf c (by omega) w'
  | succ d ih =>
    intro g k bss a c h nx e hg hb w own x
    obtain ⟨g, rfl⟩ : ∃ m, g = m + 1 := ⟨g - 1, by omega⟩
    rw [F6_L1_eq]
    by_cases ck : k < c0.length
    case neg =>
      have w' : OwnRows (Cel h (nx + 8) (ownOf a)) h (nx + 8) a 1 bss := own_mono w (Frm.refl _ _ _) (fun _ _ q => q) ⟨by omega, fun _ _ => rfl⟩
      rw [if_neg (by rw [decide_eq_true_eq]; omega)]
      exact j3_end hf c (by omega) w'
    rw [if_pos (decide_eq_true (by omega)), if_pos (decide_eq_true (by omega)), F6_J2_eq]
    have s0' : Sl h (nx + 8) x0a c0.length 12 c0.flatten := s0.ext (x.le (by omega))
    have hrow : (c0.flatten.drop (k * 12)).take 12 = c0[k] := flat_drop (fun r hr => (t0 r hr).length) (by simp [ck])
    rw [s0'.readR ck, hrow]
    obtain ⟨t, ht, w0, w1, w2, w3⟩ := tg_of (t0 c0[k] (List.getElem_mem ck))
    rw [ht, ag12]
    have hm := labelOf_may t
    have hfit := may_fits hm w0 w1 w2 w3
    have hdr := decR_enc hm hfit
    have lo := fun (n : Nat) => labelOf_spec (f := f) (by omega) t h n
    unfold Tg.row at lo ⊢
    simp only [mst_, mstL]
    obtain ⟨h2, n2, r1, r2⟩ := lo (nx + 8 + 7)
    rw [r1]
    simp only [mst_]
    rw [ag13]
    generalize labelOf t = X at *
    have l2 := r2.1
    have k1 : (h2.put (nx + 13) (some ⟨lb0.row, 13, true⟩)) (nx + 13) = some ⟨lb0.row, 13, true⟩ := put_same _ _ _
    have k2 : ((h2.put (nx + 13) (some ⟨lb0.row, 13, true⟩)).put (nx + 13) (some ⟨X.row, 13, true⟩)) (nx + 13) = some ⟨X.row, 13, true⟩ := put_same _ _ _
    have keep : ∀ i, i < nx → ((h2.put (nx + 13) (some ⟨lb0.row, 13, true⟩)).put (nx + 13) (some ⟨X.row, 13, true⟩)) i = h i := fun i hi => by rw [put_ne (by omega), put_ne (by omega), r2.2 i (by omega)]
    obtain ⟨h3, hh3⟩ : ∃ h3, h3 = (h2.put (nx + 13) (some ⟨lb0.row, 13, true⟩)).put (nx + 13) (some ⟨X.row, 13, true⟩) := ⟨_, rfl⟩
    rw [← hh3] at k2 keep
    obtain ⟨b, h4, n4, u1, u2, u3, u4, u5⟩ := enc_ok (f := f) (by omega) X hm h3 (n2 + 7)
    have l4 := u2.1
    have eX : h4 (nx + 13) = some ⟨X.row, 13, true⟩ := by rw [u2.2 _ (by omega)]; exact k2
    have xh : Ext h nx h4 n4 := ⟨by omega, fun i hi => by rw [u2.2 i (by omega)]; exact keep i hi⟩
    clear keep lo
    unfold lb0 Lb.row at k1 hh3
    unfold Lb.row at u1 eX k2 ⊢
    simp only at k1
    simp only [mst_, mstL]
    rw [show nx + 8 + 5 = nx + 13 by omega, st_all k1 (n := 13) rfl rfl (by rfl), ← hh3, ldr_all k2 (n := 13) rfl]
    simp only [agg13, mst_, mstL]
    rw [u1]
    simp only [mst_]
    rw [if_neg (by decide), if_neg (by decide), F6_J4_eq]
    have nown : ¬ ownOf a b := fun q => by have := w.lt b q; omega
    -- a sector that is put down
    have down : ∀ (cs : List Int) (H : AHeap) (N : Nat) (x8 x9 : Int), Bytes cs → cs.length = 128 → Ext h nx H N → H b = some ⟨ints .u8 cs, 1, true⟩ → b < N → x8 = (bs1 (newest bss) bss.length cs).1.time → x9 = (bs1 (newest bss) bss.length cs).2 →
        ∃ h' nx', F6_J5 (callP Try.prog keepT f) Y0 lf g x0a c0.length none x1a c1.length none x2a c2.length none a bss.length c x8 x9 (k : Int) (some (b, 0)) 128 (some 128) H N = some (.bool true, h', nx') := by
      intro cs H N x8 x9 hB hcs xH hHb lb e8 e9
      refine j5_spec (P := fun r => ∃ h' nx', r = some (.bool true, h', nx')) (k := k) (by omega) (bl := by omega) s2 t2 (own_mono w (Frm.refl _ _ _) (fun _ _ q => q) xH) own (x.trans xH) hB hcs hHb lb nown ?_
      intro bss' a' c' h' nx' hn hl w' own' x'
      rw [e8, e9, ← hn]
      exact ih g (k + 1) bss' a' c' h' nx' (by omega) (by omega) (by omega) w' own' x'
    -- the newest, or not
    have fresh : ∀ N, n4 ≤ N →
        ∃ h' nx', ((some (nx + 13, 0)).bind fun p15 => (ldA h4 p15.1 (p15.2 + 4)).bind fun v16 => (asI .i64 v16).bind fun n17 =>
          if (decide ((n17 : Int) > (newest bss).1.time)) = true then
          ((some (nx + 13, 0)).bind fun p18 => (ldA h4 p18.1 (p18.2 + 4)).bind fun v19 => (asI .i64 v19).bind fun n20 =>
            F6_J5 (callP Try.prog keepT f) Y0 lf g x0a c0.length none x1a c1.length none x2a c2.length none a bss.length c n20 ((bss.length : Nat) : Int) (k : Int) (some (b, 0)) 128 (some 128) h4 (N + 20))
          else
          (F6_J5 (callP Try.prog keepT f) Y0 lf g x0a c0.length none x1a c1.length none x2a c2.length none a bss.length c (newest bss).1.time (newest bss).2 (k : Int) (some (b, 0)) 128 (some 128) h4 (N + 14))) = some (.bool true, h', nx') := by
      intro N hN
      simp only [mst_]
      rw [ld_at eX (v := .int .i64 X.time) (by rfl)]
      simp only [mst_]
      have hb1 : bs1 (newest bss) bss.length (encL X) = if (newest bss).1.time < X.time then (X, (bss.length : Int)) else newest bss := by
        unfold bs1; rw [hdr]
        by_cases q : (newest bss).1.time < X.time
        · rw [if_pos q, if_pos ⟨rfl, q⟩]
        · rw [if_neg q, if_neg (fun z => q z.2)]
      by_cases cT : (newest bss).1.time < X.time
      · rw [if_pos (decide_eq_true cT), ld_at eX (v := .int .i64 X.time) (by rfl)]
        simp only [mst_]
        rw [if_pos cT] at hb1
        exact down (encL X) h4 _ _ _ (encL_bytes X) (encL_len X) (xh.le (by omega)) u5 (by omega) (by rw [hb1]) (by rw [hb1])
      · rw [if_neg (by rw [decide_eq_true_eq]; exact cT)]
        rw [if_neg cT] at hb1
        exact down (encL X) h4 _ _ _ (encL_bytes X) (encL_len X) (xh.le (by omega)) u5 (by omega) (by rw [hb1]) (by rw [hb1])
    by_cases c1k : k < c1.length
    case neg =>
      rw [if_neg (by rw [decide_eq_true_eq]; omega)]
      exact fresh (n4 + 7) (by omega)
    rw [if_pos (decide_eq_true (by omega))]
    have s1' : Sl h4 n4 x1a c1.length 1 c1.flatten := (s1.ext x).ext xh
    obtain ⟨tb, htb⟩ : ∃ tb, c1[k] = [.bool tb] := by have := t1 c1[k] (List.getElem_mem c1k); simpa only [Ty] using this
    have hfl : c1.flatten[k * 1]? = some (.bool tb) := by
      have := flat_get (rows := c1) (es := 1) (i := k) (f := 0) (r := c1[k]) (fun r hr => (t1 r hr).length) (by simp [c1k]) (by omega)
      rw [htb] at this
      simpa using this
    rw [s1'.read0 (i := (k : Int)) (by omega) (by omega) (by omega) (by rw [Int.toNat_natCast]; exact hfl)]
    simp only [mst_]
    cases tb with
    | false => rw [if_neg (by decide)]; exact fresh (n4 + 7) (by omega)
    | true =>
      rw [if_pos rfl, ld_at eX (v := .int .i64 X.addr) (by rfl)]
      simp only [mst_]
      have hpk := pickL_in (x := X.addr) (n := 96) (by omega)
      rw [picked_spec (f := f) (by omega) Y0 X.addr 96 (by omega) (by omega)]
      simp only [mst_]
      obtain ⟨p, hp⟩ : ∃ p : Nat, pickL X.addr 96 = (p : Int) := ⟨(pickL X.addr 96).toNat, by omega⟩
      rw [hp] at hpk ⊢
      have hlen := encL_len X
      have hcell : (ints .u8 (encL X))[p]? = some (.int .u8 (encL X)[p]) := by simp [ints]
      rw [if_pos ⟨by omega, by omega⟩, Int.toNat_natCast, Nat.mul_one, Nat.zero_add, ld_at u5 hcell]
      simp only [mst_]
      have htd := torn_dec X (p := p) (by omega) (b := (encL X)[p]) (by simp)
      have hx := xor8 (encL X)[p] 1
      rw [if_pos ⟨by omega, by omega⟩, st_to u5 (cs' := ints .u8 ((encL X).set p (bits .xor .u8 (encL X)[p] 1))) rfl (by simp [ints]; omega) (by unfold ints; rw [List.map_set])]
      have hb1 : bs1 (newest bss) bss.length ((encL X).set p (bits .xor .u8 (encL X)[p] 1)) = newest bss := by unfold bs1; rw [htd]; simp
      refine down _ _ _ _ _ (fun y hy => ?_) (by rw [List.length_set]; exact hlen) (Ext.put xh (by omega) (by omega)) (put_same _ _ _) (Nat.lt_of_lt_of_le u4 (by omega)) (by rw [hb1]) (by rw [hb1])
      rcases List.mem_or_eq_of_mem_set hy with hy | rfl
      · exact encL_bytes X y hy
      · exact hx

theorem BestNewest_run (h : AHeap) (nx : Nat) (a0 : Option (Nat × Nat)) (c0 : List (List AV)) (_ : c0.length * 96 ≤ 140737488351232) (t0 : ∀ v ∈ c0, Ty h nx TgSh v) (s0 : Sl h nx a0 c0.length TgSh.n c0.flatten)
    (a1 : Option (Nat × Nat)) (c1 : List (List AV)) (_ : c1.length * 1 ≤ 140737488351232) (t1 : ∀ v ∈ c1, Ty h nx .bool v) (s1 : Sl h nx a1 c1.length Sh.bool.n c1.flatten)
    (a2 : Option (Nat × Nat)) (c2 : List (List AV)) (_ : c2.length * 24 ≤ 140737488351232) (t2 : ∀ v ∈ c2, Ty h nx (.sl (.int .u8)) v) (s2 : Sl h nx a2 c2.length (Sh.sl (.int .u8)).n c2.flatten) :
    ∃ f h' nx', callP Try.prog keepT f Y0 6 [.slice a0 c0.length none, .slice a1 c1.length none, .slice a2 c2.length none] h nx = some (.bool true, h', nx') := by
  refine ⟨3001, ?_⟩
  rw [F6_eq]
  exact bn_loop (f := 3000) (lf := 3000) (by omega) (h0 := h) (n0 := nx) s0 t0 s1 t1 s2 t2 12 3000 0 [] none none h _ (by omega) (by omega) (by simp) (OwnRows.nil _ _ _ _) (fun i ⟨o, e⟩ => by cases e) ⟨by omega, fun _ _ => rfl⟩

end Go.Proofs.Ytkidbgfegnmhdaa.T
