/- A space: a deed, and Play. -/
import Derived.Test.YtbekpkapkaifiaaE6
set_option linter.unusedVariables false
set_option linter.unusedSimpArgs false
namespace Go.Proofs.Ytbekpkapkaifiaa.T
open Go Go.RowKit Go.Proofs

structure Deed where
  k : Int
  a : Int
  n : Int
def Deed.row (d : Deed) : List AV := [.int .i64 d.k, .int .i64 d.a, .int .i64 d.n]
def doS (s : SP) (d : Deed) : SP × (Int × Int) :=
  if d.k = 1 then takeS s d.n else if d.k = 2 then ((giveS s d.a d.n).1, ((giveS s d.a d.n).2, 0)) else if d.k = 3 then (commitS s, (0, 0)) else (s, (3, 0))
def runP : SP → List Deed → List (Int × Int × Int)
  | _, [] => []
  | s, d :: ds => ((doS s d).2.1, (doS s d).2.2, (doS s d).1.free) :: runP (doS s d).1 ds
def stP : SP → List Deed → SP
  | s, [] => s
  | s, d :: ds => stP (doS s d).1 ds

def Sok (n : Nat) (s : SP) : Prop := s.u.length = n ∧ s.free = zc s.u ∧ ∀ x ∈ s.u, 0 ≤ x ∧ x ≤ 3
theorem zc_le (u : List Int) : zc u ≤ u.length := List.countP_le_length
theorem zc_rep0 (n : Nat) : zc (List.replicate n 0) = n := by simp [zc, List.countP_replicate]
theorem zc_rep1 (n : Nat) : zc (List.replicate n 1) = 0 := by simp [zc, List.countP_replicate]
theorem mem_setR {v x : Int} {u : List Int} {a n : Nat} (h : a + n ≤ u.length) (hx : x ∈ setR v u a n) : x ∈ u ∨ x = v := by
  rw [setR_eq v h] at hx
  rcases List.mem_append.1 hx with hx | hx
  · rcases List.mem_append.1 hx with hx | hx
    · exact .inl (List.mem_of_mem_take hx)
    · exact .inr (List.eq_of_mem_replicate hx)
  · exact .inl (List.mem_of_mem_drop hx)
theorem com_log : ∀ (rs : List (Nat × Nat)) (s : SP), (comL s rs).log.length = s.log.length + rs.length
  | [], s => rfl
  | r :: rs, s => by simp only [comL]; rw [com_log rs]; simp [comS]; omega

/-- What take finds. -/
theorem take_found {s : SP} {n : Nat} (hn : 1 ≤ n) {e : Nat} (h : findL n s.u 0 0 = some e) : n ≤ e ∧ e ≤ s.u.length ∧ ∀ i, e - n ≤ i → i < e → s.u[i]? = some 0 := by
  have := findL_ok hn s.u [] 0 (by simp) (by simp) h
  simpa using this
theorem takeM_ok {n : Nat} {s : SP} (w : Sok n s) {m : Nat} (hm : 1 ≤ m) : Sok n (takeM s m (findL m s.u 0 0)).1 ∧ (takeM s m (findL m s.u 0 0)).1.log.length ≤ s.log.length + 1 := by
  obtain ⟨w1, w2, w3⟩ := w
  cases hf : findL m s.u 0 0 with
  | none => exact ⟨⟨w1, w2, w3⟩, by simp [takeM]⟩
  | some e =>
    obtain ⟨e1, e2, e3⟩ := take_found hm hf
    have hmid : (s.u.drop (e - m)).take m = List.replicate m 0 := all_get (by omega) (fun i h1 h2 => e3 i h1 (by omega))
    have z1 := zc_mid (u := s.u) (a := e - m) (n := m)
    rw [hmid, zc_rep0] at z1
    have z2 := zc_setR 1 (u := s.u) (a := e - m) (n := m) (by omega)
    rw [if_neg (by omega)] at z2
    refine ⟨⟨by simp only [takeM]; rw [setR_len]; exact w1, by simp only [takeM]; rw [z2, w2, z1]; omega, fun x hx => ?_⟩, by simp [takeM]⟩
    rcases mem_setR (by omega) hx with q | q
    · exact w3 x q
    · subst q; omega
theorem doS_ok {n : Nat} {s : SP} (w : Sok n s) (d : Deed) : Sok n (doS s d).1 ∧ (doS s d).1.log.length ≤ s.log.length + (n + 1) := by
  unfold doS
  by_cases k1 : d.k = 1
  · rw [if_pos k1]
    by_cases c : d.n < 1 ∨ d.n > s.u.length
    · unfold takeS; rw [if_pos c]; exact ⟨w, Nat.le_add_right _ _⟩
    · obtain ⟨m, hm⟩ : ∃ m : Nat, d.n = (m : Int) := ⟨d.n.toNat, by omega⟩
      rw [hm, takeS_eq (by omega) (by omega)]
      obtain ⟨t1, t2⟩ := takeM_ok w (m := m) (by omega)
      exact ⟨t1, by omega⟩
  rw [if_neg k1]
  by_cases k2 : d.k = 2
  · rw [if_pos k2]
    unfold giveS
    by_cases c : d.a < 0 ∨ d.n < 1 ∨ d.n > s.u.length ∨ d.a > s.u.length - d.n
    · rw [if_pos c]; exact ⟨w, Nat.le_add_right _ _⟩
    rw [if_neg c]
    by_cases c2 : ((s.u.drop d.a.toNat).take d.n.toNat).all (fun x => decide (x = 1)) = true
    · rw [if_pos c2]
      obtain ⟨w1, w2, w3⟩ := w
      have hb : d.a.toNat + d.n.toNat ≤ s.u.length := by omega
      have hmid : (s.u.drop d.a.toNat).take d.n.toNat = List.replicate d.n.toNat 1 := by
        rw [List.eq_replicate_iff]
        refine ⟨by simp; omega, fun x hx => ?_⟩
        have := List.all_eq_true.1 c2 x hx
        simpa using this
      have z1 := zc_mid (u := s.u) (a := d.a.toNat) (n := d.n.toNat)
      rw [hmid, zc_rep1] at z1
      have z2 := zc_setR 2 (u := s.u) (a := d.a.toNat) (n := d.n.toNat) hb
      rw [if_neg (by omega)] at z2
      refine ⟨⟨by simp only; rw [setR_len]; exact w1, by simp only; rw [z2, w2, z1], fun x hx => ?_⟩, Nat.le_add_right _ _⟩
      rcases mem_setR hb hx with q | q
      · exact w3 x q
      · subst q; omega
    · rw [if_neg c2]; exact ⟨w, Nat.le_add_right _ _⟩
  rw [if_neg k2]
  by_cases k3 : d.k = 3
  · rw [if_pos k3]
    obtain ⟨w1, w2, w3⟩ := w
    refine ⟨⟨by rw [commit_u]; simpa using w1, by rw [commit_free, commit_u, zc_step, w2]; simp, fun x hx => ?_⟩, ?_⟩
    · rw [commit_u] at hx
      obtain ⟨y, hy, rfl⟩ := List.mem_map.1 hx
      have := w3 y hy
      unfold stepU
      split
      · omega
      · split <;> omega
    · have h1 := com_log (runsG (fun x => x == 3) s.u 0 none) s
      have h2 := runsG_len (fun x => x == 3) s.u 0 none
      simp only [commitS]; omega
  · rw [if_neg k3]; exact ⟨w, Nat.le_add_right _ _⟩

theorem do_specS {f : Nat} {Y : YldF} {h : AHeap} {nx sp ub : Nat} {la : Option (Nat × Nat)} {s : SP} (w : Spc h nx sp ub la s) {N : Nat} (ok : Sok N s) (hN : N ≤ 4096) (hl : s.log.length ≤ 1900000) (hf : N + 8 ≤ f) (d : Deed) :
    ∃ h' nx', callP Try.prog keepT f Y 36 [.ptr (some (sp, 0)), .agg d.row] h nx = some (.agg [.int .i64 (doS s d).2.1, .int .i64 (doS s d).2.2, .int .i64 0], h', nx') ∧ DeedR h nx sp ub la (doS s d).1 h' nx' := by
  obtain ⟨f, rfl⟩ : ∃ m, f = m + 1 := ⟨f - 1, by omega⟩
  obtain ⟨k1, k2, k3⟩ := ok
  have ls := w.ls; have lu := w.lu
  have zl := zc_le s.u
  obtain ⟨dk, da, dn⟩ := d
  simp only [Deed.row]
  rw [F36_eq]
  dsimp only
  generalize hh1 : AHeap.put (AHeap.put h nx _) (nx + 1) _ = h1
  have x1 : Ext h nx h1 (nx + 2) := ⟨by omega, fun i hi => by rw [← hh1, put_ne (by omega), put_ne (by omega)]⟩
  have e1 : h1 nx = some ⟨[.int .i64 dk, .int .i64 da, .int .i64 dn], 3, true⟩ := by rw [← hh1, put_ne (by omega), put_same]
  have e2 : h1 (nx + 1) = some ⟨[.int .i64 0, .int .i64 0, .int .i64 0], 3, true⟩ := by rw [← hh1, put_same]
  have fin : ∀ (s' : SP) (h2 : AHeap) (n2 : Nat) (cs : List AV) (m m0 : Nat), nx + 2 ≤ m0 → DeedR h1 m0 sp ub la s' h2 n2 → n2 ≤ m → DeedR h nx sp ub la s' (h2.put (nx + 1) (some ⟨cs, 3, true⟩)) m := fun s' h2 n2 cs m m0 h0 q hm => by
    obtain ⟨la', q1, q2, q3⟩ := q
    have l2 := q2.1
    have f5 : Frm (fun i => i = nx + 1) h2 n2 (h2.put (nx + 1) (some ⟨cs, 3, true⟩)) m := (Frm.refl _ _ _).put (.inl rfl) hm
    obtain ⟨c5, lc5, e5⟩ := q1.hd
    have z1 := q1.ls; have z2 := q1.lu
    refine ⟨la', ⟨⟨c5, lc5, (put_ne (by omega)).trans e5⟩, (put_ne (by omega)).trans q1.hu, q1.hl.go f5 (fun i q => ?_) (fun _ _ q => q), by omega, by omega, q1.ne, q1.nl⟩, ⟨by omega, fun i hi hd => by rw [put_ne (by omega), q2.2 i (by omega) hd, x1.2 i hi]⟩, fun i q => by rcases q3 i q with q | q; exact .inl q; exact .inr (by omega)⟩
    rcases q3 i q with q | q
    · have := w.hl.lt q; omega
    · omega
  have same : ∀ (m0 : Nat), nx + 2 ≤ m0 → DeedR h1 m0 sp ub la s h1 m0 := fun m0 h0 => ⟨la, w.ext ⟨by omega, x1.2⟩, Frm.refl _ _ _, fun i q => .inl q⟩
  rw [ld_at e1 (v := .int .i64 dk) rfl]
  simp only [bind_some', asI_int, asB_bool, asStr_str, asP_ptr, asSl_sl, asAgg_1, asAgg_2, asAgg_3, asAgg_4, asTup_0, asTup_2, asTup_3, asTup_4, if_true', if_false', if_not_true', if_not_false', getD_0, getD_1, getD_2, getD_3]
  unfold doS
  simp only
  by_cases c1 : dk = 1
  · rw [if_pos (by simp [c1]), if_pos c1, ld_at e1 (v := .int .i64 dn) rfl]
    simp only [bind_some', asI_int, asB_bool, asStr_str, asP_ptr, asSl_sl, asAgg_1, asAgg_2, asAgg_3, asAgg_4, asTup_0, asTup_2, asTup_3, asTup_4, if_true', if_false', if_not_true', if_not_false', getD_0, getD_1, getD_2, getD_3]
    obtain ⟨h2, n2, g1, g2⟩ := take_spec (f := f) (Y := Y) (w.ext (⟨by omega, x1.2⟩ : Ext h nx h1 (nx + 11))) (by omega) (by omega) (by omega) (by omega) dn
    rw [g1]
    simp only [bind_some', asI_int, asB_bool, asStr_str, asP_ptr, asSl_sl, asAgg_1, asAgg_2, asAgg_3, asAgg_4, asTup_0, asTup_2, asTup_3, asTup_4, if_true', if_false', if_not_true', if_not_false', getD_0, getD_1, getD_2, getD_3]
    obtain ⟨la', q1, q2, q3⟩ := g2
    have e2' := (q2.2 (nx + 1) (by omega) (fun q => by rcases q with q | q | q; omega; omega; have := w.hl.lt q; omega)).trans e2
    rw [st_all e2' (by simp) (by simp) (by simp [allOne, AV.one])]
    rw [ldr_all (put_same _ (nx + 1) _) (by simp)]
    simp only [bind_some', asI_int, asB_bool, asStr_str, asP_ptr, asSl_sl, asAgg_1, asAgg_2, asAgg_3, asAgg_4, asTup_0, asTup_2, asTup_3, asTup_4, if_true', if_false', if_not_true', if_not_false', getD_0, getD_1, getD_2, getD_3]
    exact ⟨_, _, rfl, fin _ _ _ _ _ _ (by omega) ⟨la', q1, q2, q3⟩ (Nat.le_refl _)⟩
  rw [if_neg (by simpa using c1), if_neg c1]
  by_cases c2 : dk = 2
  · rw [if_pos (by simp [c2]), if_pos c2, ldr_all e1 (by simp)]
    simp only [bind_some', asI_int, asB_bool, asStr_str, asP_ptr, asSl_sl, asAgg_1, asAgg_2, asAgg_3, asAgg_4, asTup_0, asTup_2, asTup_3, asTup_4, if_true', if_false', if_not_true', if_not_false', getD_0, getD_1, getD_2, getD_3]
    obtain ⟨h2, n2, g1, g2⟩ := give_spec (f := f) (Y := Y) (w.ext (⟨by omega, x1.2⟩ : Ext h nx h1 (nx + 13))) (by omega) (by omega) dk da dn
    rw [g1]
    simp only [bind_some', asI_int, asB_bool, asStr_str, asP_ptr, asSl_sl, asAgg_1, asAgg_2, asAgg_3, asAgg_4, asTup_0, asTup_2, asTup_3, asTup_4, if_true', if_false', if_not_true', if_not_false', getD_0, getD_1, getD_2, getD_3]
    obtain ⟨la', q1, q2, q3⟩ := g2
    have e2' := (q2.2 (nx + 1) (by omega) (fun q => by rcases q with q | q | q; omega; omega; have := w.hl.lt q; omega)).trans e2
    rw [st_all e2' (by simp) (by simp) (by simp [allOne, AV.one])]
    rw [ldr_all (put_same _ (nx + 1) _) (by simp)]
    simp only [bind_some', asI_int, asB_bool, asStr_str, asP_ptr, asSl_sl, asAgg_1, asAgg_2, asAgg_3, asAgg_4, asTup_0, asTup_2, asTup_3, asTup_4, if_true', if_false', if_not_true', if_not_false', getD_0, getD_1, getD_2, getD_3]
    exact ⟨_, _, rfl, fin _ _ _ _ _ _ (by omega) ⟨la', q1, q2, q3⟩ (Nat.le_refl _)⟩
  rw [if_neg (by simpa using c2), if_neg c2]
  by_cases c3 : dk = 3
  · rw [if_pos (by simp [c3]), if_pos c3]
    obtain ⟨h2, n2, g1, g2⟩ := commit_spec (f := f) (Y := Y) (w.ext (⟨by omega, x1.2⟩ : Ext h nx h1 (nx + 12))) (by omega) (by omega) (by omega) (by omega)
    rw [g1]
    simp only [bind_some', asI_int, asB_bool, asStr_str, asP_ptr, asSl_sl, asAgg_1, asAgg_2, asAgg_3, asAgg_4, asTup_0, asTup_2, asTup_3, asTup_4, if_true', if_false', if_not_true', if_not_false', getD_0, getD_1, getD_2, getD_3]
    obtain ⟨la', q1, q2, q3⟩ := g2
    have e2' := (q2.2 (nx + 1) (by omega) (fun q => by rcases q with q | q | q; omega; omega; have := w.hl.lt q; omega)).trans e2
    rw [st_all e2' (by simp) (by simp) (by simp [allOne, AV.one])]
    rw [ldr_all (put_same _ (nx + 1) _) (by simp)]
    simp only [bind_some', asI_int, asB_bool, asStr_str, asP_ptr, asSl_sl, asAgg_1, asAgg_2, asAgg_3, asAgg_4, asTup_0, asTup_2, asTup_3, asTup_4, if_true', if_false', if_not_true', if_not_false', getD_0, getD_1, getD_2, getD_3]
    exact ⟨_, _, rfl, fin _ _ _ _ _ _ (by omega) ⟨la', q1, q2, q3⟩ (Nat.le_add_right _ _)⟩
  · rw [if_neg (by simpa using c3), if_neg c3, st_all e2 (by simp) (by simp) (by simp [allOne, AV.one])]
    rw [ldr_all (put_same _ (nx + 1) _) (by simp)]
    simp only [bind_some', asI_int, asB_bool, asStr_str, asP_ptr, asSl_sl, asAgg_1, asAgg_2, asAgg_3, asAgg_4, asTup_0, asTup_2, asTup_3, asTup_4, if_true', if_false', if_not_true', if_not_false', getD_0, getD_1, getD_2, getD_3]
    exact ⟨_, _, rfl, fin _ _ _ _ _ _ (Nat.le_refl _) (same _ (Nat.le_refl _)) (by omega)⟩

end Go.Proofs.Ytbekpkapkaifiaa.T
