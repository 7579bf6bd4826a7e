import Derived.Test.YtdjbhonncjcbjaaS8b
set_option linter.unusedVariables false
set_option linter.unusedSimpArgs false
namespace Go.Proofs.Ytdjbhonncjcbjaa.T
open Go Go.RowKit Go.Proofs

section
variable {h : AHeap} {nxs : Nat} {sa : Option (Nat × Nat)} {d p a q long : Int} {n : Nat} (hs : Sl h nxs sa n 4 (cols d p a q long n))
include hs
theorem rd0 {c : Nat} (hc : c < n) (K : AV → Option (AV × AHeap × Nat)) : (sa.bind fun p => if 0 ≤ (c : Int) ∧ (c : Int) < ((n : Nat) : Int) then (ldA h p.1 (p.2 + Int.toNat (c : Int) * 4)).bind K else none) = K (.int .i64 (col d p a q long c).drive) :=
  hs.read0 (by omega) (by omega) (by omega) (by have := cols_at d p a q long n c 0 hc (by omega); simpa [Col.cells] using this) K
theorem rd2 {c : Nat} (hc : c < n) (K : AV → Option (AV × AHeap × Nat)) : (sa.bind fun p => if 0 ≤ (c : Int) ∧ (c : Int) < ((n : Nat) : Int) then (ldA h p.1 ((p.2 + Int.toNat (c : Int) * 4) + 2)).bind K else none) = K (.int .i64 (col d p a q long c).len) :=
  hs.read (by omega) (by omega) (by omega) (by have := cols_at d p a q long n c 2 hc (by omega); simpa [Col.cells] using this) K
theorem rd3 {c : Nat} (hc : c < n) (K : AV → Option (AV × AHeap × Nat)) : (sa.bind fun p => if 0 ≤ (c : Int) ∧ (c : Int) < ((n : Nat) : Int) then (ldA h p.1 ((p.2 + Int.toNat (c : Int) * 4) + 3)).bind K else none) = K (.bool (col d p a q long c).par) :=
  hs.read (by omega) (by omega) (by omega) (by have := cols_at d p a q long n c 3 hc (by omega); simpa [Col.cells] using this) K
theorem rd20 (hc : 0 < n) (K : AV → Option (AV × AHeap × Nat)) : (sa.bind fun p => if 0 ≤ (0 : Int) ∧ (0 : Int) < ((n : Nat) : Int) then (ldA h p.1 ((p.2 + Int.toNat 0 * 4) + 2)).bind K else none) = K (.int .i64 (col d p a q long 0).len) := rd2 hs (c := 0) hc K
end

theorem inner_loop (call : CallF) (lf n0 : Nat) (d p a q long n1 data : Int) (n i : Nat) (hd : 2 ≤ d) (hd' : d ≤ 8) (hn : (n : Int) ≤ d) (hi : i < n) (ha : 0 ≤ a) {h : AHeap} {nxs : Nat} {sa : Option (Nat × Nat)} (sc : Bool) (hs : Sl h nxs sa n 4 (cols d p a q long n)) (m : Nat) :
    ∀ (k c nx : Nat), c + m = i → m < k → ∃ nx', nx ≤ nx' ∧ F8_L4 call lf n0 k d p n1 sa n sc data i c h nx =
      if (col d p a q long i).par = true then F8_L2 call lf n0 d p n1 sa n sc data (wrapA .i64 ((i : Int) + 1)) h nx' else F8_L2 call lf n0 d p n1 sa n sc (wrapA .i64 (data + (col d p a q long i).len)) (wrapA .i64 ((i : Int) + 1)) h nx' := by
  induction m with
  | zero =>
    intro k c nx e hk
    obtain ⟨k, rfl⟩ : ∃ m, k = m + 1 := ⟨k - 1, by omega⟩
    obtain rfl : c = i := by omega
    rw [F8_L4_eq, if_neg (by simp), rd3 hs hi]
    simp only [bind_some', asI_int, asB_bool, asStr_str, asP_ptr, asSl_sl, asAgg_1, asAgg_2, asAgg_3, asAgg_4, asTup_0, asTup_2, asTup_3, asTup_4, if_true', if_false', if_not_true', if_not_false', getD_0, getD_1, getD_2, getD_3]
    cases hp : (col d p a q long c).par with
    | true => rw [if_not_true']; exact ⟨nx + 12, by omega, (if_true' _ _).symm⟩
    | false => rw [if_not_false', rd2 hs hi]; simp only [bind_some', asI_int, asB_bool, asStr_str, asP_ptr, asSl_sl, asAgg_1, asAgg_2, asAgg_3, asAgg_4, asTup_0, asTup_2, asTup_3, asTup_4, if_true', if_false', if_not_true', if_not_false', getD_0, getD_1, getD_2, getD_3]; exact ⟨nx + 20, by omega, rfl⟩
  | succ m ih =>
    intro k c nx e hk
    obtain ⟨k, rfl⟩ : ∃ m, k = m + 1 := ⟨k - 1, by omega⟩
    have w1 : wrapA .i64 ((c : Int) + 1) = ((c + 1 : Nat) : Int) := by rw [wA (by omega) (by omega)]; omega
    have ne : ¬ (col d p a q long c).drive = (col d p a q long i).drive := by
      show ¬ (a + (c : Int)) % d = (a + (i : Int)) % d
      have hdd : d = 2 ∨ d = 3 ∨ d = 4 ∨ d = 5 ∨ d = 6 ∨ d = 7 ∨ d = 8 := by omega
      rcases hdd with hh | hh | hh | hh | hh | hh | hh <;> subst hh <;> omega
    rw [F8_L4_eq, if_pos (by simp; omega), rd0 hs (show c < n by omega)]
    simp only [bind_some', asI_int, asB_bool, asStr_str, asP_ptr, asSl_sl, asAgg_1, asAgg_2, asAgg_3, asAgg_4, asTup_0, asTup_2, asTup_3, asTup_4, if_true', if_false', if_not_true', if_not_false', getD_0, getD_1, getD_2, getD_3]
    rw [rd0 hs hi]
    simp only [bind_some', asI_int, asB_bool, asStr_str, asP_ptr, asSl_sl, asAgg_1, asAgg_2, asAgg_3, asAgg_4, asTup_0, asTup_2, asTup_3, asTup_4, if_true', if_false', if_not_true', if_not_false', getD_0, getD_1, getD_2, getD_3]
    rw [if_neg (by simpa using ne), w1]
    obtain ⟨nx', l, f⟩ := ih k (c + 1) (nx + 17) (by omega) (by omega)
    exact ⟨nx', by omega, f⟩

theorem lens {d p a q long : Int} {n i : Nat} (hq : 0 ≤ q) (hq' : q ≤ 32) (hl : q = 0 → (n : Int) ≤ long) (hi : i < n) (hlp : 0 < long → p < long) :
    1 ≤ (col d p a q long i).len ∧ (col d p a q long i).len ≤ (col d p a q long 0).len ∧ (col d p a q long 0).len - (col d p a q long i).len ≤ 1 ∧ (col d p a q long 0).len ≤ 33 ∧ ((i : Int) < p → (col d p a q long i).len = (col d p a q long 0).len) := by
  have f2 : (col d p a q long i).len = if (i : Int) < long then q + 1 else q := rfl
  have g2 : (col d p a q long 0).len = if (0 : Int) < long then q + 1 else q := rfl
  rw [f2, g2]
  by_cases h1 : (i : Int) < long
  · rw [if_pos h1, if_pos (by omega)]; omega
  · rw [if_neg h1]
    by_cases h2 : (0 : Int) < long
    · rw [if_pos h2]
      refine ⟨?_, by omega, by omega, by omega, ?_⟩
      · by_cases hq0 : q = 0
        · have := hl hq0; omega
        · omega
      · intro hip; have := hlp h2; omega
    · rw [if_neg h2]
      refine ⟨?_, by omega, by omega, by omega, fun _ => rfl⟩
      by_cases hq0 : q = 0
      · have := hl hq0; omega
      · omega

theorem aux_len {data len : Int} {m : Nat} (hd0 : 0 ≤ data) (h : data + 33 * ((m + 1 : Nat) : Int) ≤ 1000) (hl : 1 ≤ len) (hu : len ≤ 33) : 0 ≤ data + len ∧ data + len + 33 * (m : Int) ≤ 1000 ∧ wrapA .i64 (data + len) = data + len :=
  ⟨by omega, by omega, wA (by omega) (by omega)⟩

theorem outer_loop (call : CallF) (lf : Nat) (d p a q long n0 : Int) (n : Nat) (hd : 2 ≤ d) (hd' : d ≤ 8) (hn : (n : Int) ≤ d) (ha : 0 ≤ a) (hp : 1 ≤ p) (hq : 0 ≤ q) (hq' : q ≤ 32) (hl : q = 0 → (n : Int) ≤ long) (hpn : p < n) (hlp : 0 < long → p < long)
    {h : AHeap} {nxs : Nat} {sa : Option (Nat × Nat)} (sc : Bool) (hs : Sl h nxs sa n 4 (cols d p a q long n)) (hlf : 20 ≤ lf) (m : Nat) : ∀ (k i : Nat) (data : Int) (nx : Nat), i + m = n → m < k → 0 ≤ data → data + 33 * m ≤ 1000 → (data + (((List.range n).drop i).map (fun (c : Nat) => if (c : Int) < p then 0 else (col d p a q long c).len)).sum = n0) →
    ∃ nx', F8_L2 call lf k d p n0 sa n sc data (i : Int) h nx = some (.bool true, h, nx') := by
  induction m with
  | zero =>
    intro k i data nx e hk hd0 hd1 hsum
    obtain ⟨k, rfl⟩ : ∃ m, k = m + 1 := ⟨k - 1, by omega⟩
    obtain rfl : i = n := by omega
    rw [List.drop_of_length_le (by simp)] at hsum
    simp at hsum
    rw [F8_L2_eq, if_neg (by simp), hsum, beq_self_eq_true]
    exact ⟨_, rfl⟩
  | succ m ih =>
    intro k i data nx e hk hd0 hd1 hsum
    obtain ⟨k, rfl⟩ : ∃ r, k = r + 1 := ⟨k - 1, by omega⟩
    have hi : i < n := by omega
    have hlt : i < lf := by clear hsum hl hlp ih; omega
    have he : i + 1 + m = n := by clear hsum hl hlp ih; omega
    have hmk : m < k := by clear hsum hl hlp ih; omega
    have hn0 : 0 < n := by clear hsum hl hlp ih; omega
    have hdd : data + 33 * (m : Int) ≤ 1000 := by clear hsum hl hlp ih; omega
    have hin : (i : Int) < (n : Int) := by clear hsum hl hlp ih; omega
    have w1 : wrapA .i64 ((i : Int) + 1) = ((i + 1 : Nat) : Int) := by clear hsum hl hlp ih; rw [wA (by omega) (by omega)]; omega
    have hdr : (List.range n).drop i = i :: (List.range n).drop (i + 1) := by
      rw [List.drop_eq_getElem_cons (by simpa using hi)]; simp
    rw [hdr, List.map_cons, List.sum_cons] at hsum
    have f3 : (col d p a q long i).par = decide ((i : Int) < p) := rfl
    have z0 : 0 ≤ (col d p a q long i).drive := Int.emod_nonneg (a + (i : Int)) (show d ≠ 0 by omega)
    have z1 : (col d p a q long i).drive < d := Int.emod_lt_of_pos (a + (i : Int)) (show 0 < d by omega)
    have fl := lens (d := d) (p := p) (a := a) (q := q) (long := long) hq hq' hl hi hlp
    generalize hL : (((List.range n).drop (i + 1)).map (fun (c : Nat) => if (c : Int) < p then 0 else (col d p a q long c).len)).sum = S at hsum
    obtain ⟨fa, fb, fc, fe, ff⟩ := fl
    have fu : (col d p a q long i).len ≤ 33 := Int.le_trans fb fe
    have al := aux_len (m := m) hd0 hd1 fa fu
    have jn : ∀ nx, ∃ nx', F8_J3 call lf k d p n0 sa n sc data (i : Int) h nx = some (.bool true, h, nx') := by
      intro nx
      rw [F8_J3_eq]
      obtain ⟨nx1, l1, il⟩ := inner_loop call lf k d p a q long n0 data n i hd hd' hn hi ha sc hs i lf 0 (nx + 1) (Nat.zero_add i) hlt
      rw [show ((0 : Nat) : Int) = 0 from rfl] at il
      rw [il, w1, f3]
      by_cases hip : (i : Int) < p
      · rw [if_pos (by rw [decide_eq_true hip])]
        rw [if_pos hip, Int.zero_add] at hsum
        exact ih k (i + 1) data nx1 he hmk hd0 hdd (by rw [hL]; exact hsum)
      · rw [if_neg (by rw [decide_eq_false hip]; decide)]
        rw [if_neg hip, ← Int.add_assoc] at hsum
        rw [al.2.2]
        exact ih k (i + 1) _ nx1 he hmk al.1 al.2.1 (by rw [hL]; exact hsum)
    clear hsum hL ih hl hlp hd1 hdd al hpn hn hd' hlf hlt
    rw [F8_L2_eq, if_pos (by simpa using hin), rd0 hs hi]
    simp only [bind_some', asI_int, asB_bool, asStr_str, asP_ptr, asSl_sl, asAgg_1, asAgg_2, asAgg_3, asAgg_4, asTup_0, asTup_2, asTup_3, asTup_4, if_true', if_false', if_not_true', if_not_false', getD_0, getD_1, getD_2, getD_3]
    rw [if_neg (by simpa using z0), rd0 hs hi]
    simp only [bind_some', asI_int, asB_bool, asStr_str, asP_ptr, asSl_sl, asAgg_1, asAgg_2, asAgg_3, asAgg_4, asTup_0, asTup_2, asTup_3, asTup_4, if_true', if_false', if_not_true', if_not_false', getD_0, getD_1, getD_2, getD_3]
    rw [if_neg (by simpa using z1), rd3 hs hi]
    simp only [bind_some', asI_int, asB_bool, asStr_str, asP_ptr, asSl_sl, asAgg_1, asAgg_2, asAgg_3, asAgg_4, asTup_0, asTup_2, asTup_3, asTup_4, if_true', if_false', if_not_true', if_not_false', getD_0, getD_1, getD_2, getD_3]
    rw [if_neg (by simp [f3]), rd2 hs hi]
    simp only [bind_some', asI_int, asB_bool, asStr_str, asP_ptr, asSl_sl, asAgg_1, asAgg_2, asAgg_3, asAgg_4, asTup_0, asTup_2, asTup_3, asTup_4, if_true', if_false', if_not_true', if_not_false', getD_0, getD_1, getD_2, getD_3]
    rw [if_neg (by simpa using fa), rd2 hs hi]
    simp only [bind_some', asI_int, asB_bool, asStr_str, asP_ptr, asSl_sl, asAgg_1, asAgg_2, asAgg_3, asAgg_4, asTup_0, asTup_2, asTup_3, asTup_4, if_true', if_false', if_not_true', if_not_false', getD_0, getD_1, getD_2, getD_3]
    rw [rd20 hs hn0]
    simp only [bind_some', asI_int, asB_bool, asStr_str, asP_ptr, asSl_sl, asAgg_1, asAgg_2, asAgg_3, asAgg_4, asTup_0, asTup_2, asTup_3, asTup_4, if_true', if_false', if_not_true', if_not_false', getD_0, getD_1, getD_2, getD_3]
    rw [if_neg (by simpa using fb), rd3 hs hi]
    simp only [bind_some', asI_int, asB_bool, asStr_str, asP_ptr, asSl_sl, asAgg_1, asAgg_2, asAgg_3, asAgg_4, asTup_0, asTup_2, asTup_3, asTup_4, if_true', if_false', if_not_true', if_not_false', getD_0, getD_1, getD_2, getD_3]
    have wd : wrapA .i64 ((col d p a q long 0).len - (col d p a q long i).len) = (col d p a q long 0).len - (col d p a q long i).len := wA (by clear ff; omega) (by clear ff; omega)
    by_cases hip : (i : Int) < p
    · rw [if_pos (by rw [f3, decide_eq_true hip]), rd2 hs hi]
      simp only [bind_some', asI_int, asB_bool, asStr_str, asP_ptr, asSl_sl, asAgg_1, asAgg_2, asAgg_3, asAgg_4, asTup_0, asTup_2, asTup_3, asTup_4, if_true', if_false', if_not_true', if_not_false', getD_0, getD_1, getD_2, getD_3]
      rw [rd20 hs hn0]
      simp only [bind_some', asI_int, asB_bool, asStr_str, asP_ptr, asSl_sl, asAgg_1, asAgg_2, asAgg_3, asAgg_4, asTup_0, asTup_2, asTup_3, asTup_4, if_true', if_false', if_not_true', if_not_false', getD_0, getD_1, getD_2, getD_3]
      rw [if_neg (by simpa using ff hip), rd20 hs hn0]
      simp only [bind_some', asI_int, asB_bool, asStr_str, asP_ptr, asSl_sl, asAgg_1, asAgg_2, asAgg_3, asAgg_4, asTup_0, asTup_2, asTup_3, asTup_4, if_true', if_false', if_not_true', if_not_false', getD_0, getD_1, getD_2, getD_3]
      rw [rd2 hs hi]
      simp only [bind_some', asI_int, asB_bool, asStr_str, asP_ptr, asSl_sl, asAgg_1, asAgg_2, asAgg_3, asAgg_4, asTup_0, asTup_2, asTup_3, asTup_4, if_true', if_false', if_not_true', if_not_false', getD_0, getD_1, getD_2, getD_3]
      rw [wd, if_neg (by simpa using fc)]
      exact jn _
    · rw [if_neg (by rw [f3, decide_eq_false hip]; decide), rd20 hs hn0]
      simp only [bind_some', asI_int, asB_bool, asStr_str, asP_ptr, asSl_sl, asAgg_1, asAgg_2, asAgg_3, asAgg_4, asTup_0, asTup_2, asTup_3, asTup_4, if_true', if_false', if_not_true', if_not_false', getD_0, getD_1, getD_2, getD_3]
      rw [rd2 hs hi]
      simp only [bind_some', asI_int, asB_bool, asStr_str, asP_ptr, asSl_sl, asAgg_1, asAgg_2, asAgg_3, asAgg_4, asTup_0, asTup_2, asTup_3, asTup_4, if_true', if_false', if_not_true', if_not_false', getD_0, getD_1, getD_2, getD_3]
      rw [wd, if_neg (by simpa using fc)]
      exact jn _

end Go.Proofs.Ytdjbhonncjcbjaa.T
