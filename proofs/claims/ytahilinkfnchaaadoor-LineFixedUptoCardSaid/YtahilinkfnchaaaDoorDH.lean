/- Desk: ToldBack, whole. -/
import Derived.Test.YtahilinkfnchaaaDoorDG
set_option linter.unusedVariables false
set_option linter.unusedSimpArgs false
namespace Go.Proofs.YtahilinkfnchaaaDoor.T
open Go Go.RowKit Go.Proofs
set_option maxRecDepth 10000

theorem data_app (a b : ByteArray) : (a ++ b).data.toList = a.data.toList ++ b.data.toList := by
  rw [ByteArray.data_append, Array.toList_append]
def sumL (ws : List (List UInt8)) : Nat := (ws.map fun w => w.length + 1).sum
theorem sumL_app (a b : List (List UInt8)) : sumL (a ++ b) = sumL a + sumL b := by simp [sumL]
theorem sumL_cons (a : List UInt8) (b : List (List UInt8)) : sumL (a :: b) = a.length + 1 + sumL b := by simp [sumL]
theorem sumL_nil : sumL [] = 0 := rfl
theorem joinW_len : ∀ ws : List (List UInt8), (joinW ws).length ≤ sumL ws
  | [] => by simp [joinW]
  | [w] => by rw [joinW_one, sumL_cons]; omega
  | w :: v :: ws => by
    have := joinW_len (v :: ws)
    rw [joinW_cons, sumL_cons, List.length_append, List.length_cons]; omega
theorem names_len : ∀ (ns : List ByteArray), (∀ x ∈ ns, x.size ≤ 8) → sumL (ns.map (·.data.toList)) ≤ 9 * ns.length
  | [], _ => by simp [sumL]
  | x :: ns, h => by
    have := names_len ns fun y hy => h y (List.mem_cons_of_mem _ hy)
    have h1 := h x (by simp)
    have e : x.data.toList.length = x.size := Array.length_toList
    rw [List.map_cons, sumL_cons, List.length_cons]; omega
theorem tellW_len {t : Tld} (c1 : -9223372036854775808 ≤ t.code) (c2 : t.code ≤ 9223372036854775807) (s1 : -9223372036854775808 ≤ t.size) (s2 : t.size ≤ 9223372036854775807) (m : ∀ x ∈ t.names, x.size ≤ 8) : (joinW (tellW t)).length ≤ 100 + 2 * t.data.length + 9 * t.names.length := by
  have h1 := joinW_len (tellW t)
  have h2 := names_len t.names m
  have h3 := itoa_len t.code c1 c2
  have h4 := itoa_len t.size s1 s2
  have h5 := hexB_len t.data
  have h6 : sumL (headW t) ≤ 30 := by
    unfold headW; split <;> simp [sumL, okW, noW]; omega
  unfold tellW midW at h1
  rw [sumL_app, sumL_app, sumL_app, sumL_cons, sumL_cons, sumL_nil] at h1
  have h7 : sumL (if t.done = true then [doneW] else []) ≤ 5 := by split <;> simp [sumL, doneW]
  unfold tellW midW
  omega
theorem small_of {t : Tld} {n : Nat} (c1 : -9223372036854775808 ≤ t.code) (c2 : t.code ≤ 9223372036854775807) (s1 : -9223372036854775808 ≤ t.size) (s2 : t.size ≤ 9223372036854775807) (m : ∀ x ∈ t.names, x.size ≤ 8) (d : t.data.length ≤ 2000000) (l : t.names.length ≤ 10) (hn : 100 ≤ n) : t.Small n := by
  have := tellW_len c1 c2 s1 s2 m
  exact ⟨c1, c2, s1, s2, by omega, by omega, by omega, fun x hx => by have := m x hx; omega, by omega⟩

theorem told_end {m : Nat} (hm : 6000000 ≤ m) (Y : YldF) (lf : Nat) {h : AHeap} {nx tb : Nat} {t : Tld} {da ea na : Option (Nat × Nat)} {dc ec nc : Option Nat} {k : Nat} (g : t.Good) (m8 : ∀ x ∈ t.names, x.size ≤ 8) (hd : t.data.length ≤ 1500000) (hl : t.names.length ≤ 6) (hk : t.names = [] ↔ k = 0) (htb : tb < nx) (ti : h tb = some ⟨rowT t da ea dc ec, 5, true⟩) (d : Sl h nx da (ob t.data).length 1 (ints .u8 (ob t.data))) (u : Sl h nx ea t.names.length 1 (t.names.map AV.str)) :
    ∃ h' nx', F3_J3 (callP Tryd.prog keepT m) Y lf t.done na k nc (some (tb, 0)) h nx = some (.bool true, h', nx') := by
  unfold rowT at ti
  rw [F3_J3_eq]
  simp only [mst_, mst5_]
  rw [ldr_all (n := 5) ti rfl]
  simp only [mst_, mst5_]
  have hI := g.inn
  have z := small_of (n := m) hI.c1 hI.c2 hI.s1 hI.s2 m8 (by omega) (by omega) (by omega)
  have tr : ToldR h (nx + 7) (fun _ => False) t [.int .i64 t.code, .bool t.done, .int .i64 t.size, .slice da (ob t.data).length dc, .slice ea t.names.length ec] :=
    ⟨_, _, rfl, ⟨_, _, rfl, d.ext ⟨by omega, fun _ _ => rfl⟩, fun _ _ _ q => q⟩, ⟨_, _, rfl, u.ext ⟨by omega, fun _ _ => rfl⟩, fun _ _ _ q => q⟩⟩
  obtain ⟨h1, n1, g1, x1⟩ := tell_spec (n := m) (by omega) Y tr z
  rw [g1, g.told]
  unfold toldV
  simp only [mst_, mst5_]
  simp only [Option.getD_some, Option.isSome_some, if_true]
  have hline := tellW_len hI.c1 hI.c2 hI.s1 hI.s2 m8
  have hL : cutW (B (joinW (tellW t))).data.toList = tellW t := by rw [B_data, cutW_join _ (tellW_ne t) (tellW_nb hI)]
  obtain ⟨row2, h2, n2, g2, x2, r2⟩ := hear_spec (n := m) Y (s := B (joinW (tellW t))) (by rw [B_size]; omega) (by rw [B_size]; omega) h1 (n1 + 8) (fun n' hn' => by
    rw [hL, told_words hI]; exact small_of hI.c1 hI.c2 hI.s1 hI.s2 m8 (by omega) (by omega) (by omega))
  rw [B_data, heard g] at g2 r2
  simp only [Option.getD_some, Option.isSome_some, if_true] at g2 r2
  rw [g2]
  have x1' : Ext h nx h1 n1 := x1.from (by omega)
  have tr1 : ToldR h1 n1 (fun _ => False) t [.int .i64 t.code, .bool t.done, .int .i64 t.size, .slice da (ob t.data).length dc, .slice ea t.names.length ec] := tr.go (x1.fr fun _ => False) (fun _ _ q => q) (fun _ _ q => q)
  have ti1 := (x1'.2 tb htb).trans ti
  obtain ⟨_, _, rfl, ⟨d2, dc2, rfl, b2, v2⟩, ⟨u2, uc2, rfl, t2, w2⟩⟩ := r2
  simp only [mst_, mst5_]
  rw [st_all (n := 5) (put_same _ _ _) rfl rfl rfl]
  obtain ⟨h3, hh3⟩ : ∃ h3, h3 = AHeap.put (AHeap.put h2 (n1 + 5) (some ⟨[.int .i64 0, .bool false, .int .i64 0, .slice none 0 none, .slice none 0 none], 5, true⟩)) (n1 + 5) (some ⟨[.int .i64 t.code, .bool t.done, .int .i64 t.size, .slice d2 (ob t.data).length dc2, .slice u2 t.names.length uc2], 5, true⟩) := ⟨_, rfl⟩
  rw [← hh3]
  have o3 : ∀ j, j ≠ n1 + 5 → h3 j = h2 j := fun j hj => by rw [hh3, put_ne hj, put_ne hj]
  have b3 : h3 (n1 + 5) = some ⟨[.int .i64 t.code, .bool t.done, .int .i64 t.size, .slice d2 (ob t.data).length dc2, .slice u2 t.names.length uc2], 5, true⟩ := by rw [hh3, put_same]
  clear hh3
  have l2 := x2.1
  have l1 := x1'.1
  have f3 : Frm (fun j => j = n1 + 5) h2 n2 h3 (n2 + 9) := ⟨by omega, fun j _ hj => o3 j hj⟩
  have r3 : ToldR h3 (n2 + 9) (fun _ => False) t [.int .i64 t.code, .bool t.done, .int .i64 t.size, .slice d2 (ob t.data).length dc2, .slice u2 t.names.length uc2] :=
    ToldR.go (A := Old (n1 + 8)) ⟨_, _, rfl, ⟨d2, dc2, rfl, b2, v2⟩, ⟨u2, uc2, rfl, t2, w2⟩⟩ f3 (fun j _ q => by unfold Old; omega) (fun _ _ q => q.elim)
  have tr3 : ToldR h3 (n2 + 9) (fun _ => False) t [.int .i64 t.code, .bool t.done, .int .i64 t.size, .slice da (ob t.data).length dc, .slice ea t.names.length ec] := by
    have q : Ext h1 n1 h3 (n2 + 9) := ⟨by omega, fun j hj => (o3 j (by omega)).trans (x2.2 j (by omega))⟩
    exact tr1.go (q.fr fun _ => False) (fun _ _ q => q) (fun _ _ q => q)
  have ti3 := ((o3 tb (by omega)).trans (x2.2 tb (by omega))).trans ti1
  rw [if_neg (by rw [B_size, show (ByteArray.mk #[32, 100, 111, 110, 101]).size = 5 from rfl]; omega)]
  obtain ⟨hd1, hd2⟩ := heard_done g
  have hs2 : B (joinW (tellW t)) ++ (ByteArray.mk #[32, 100, 111, 110, 101]) = B (joinW (tellW t) ++ 32 :: doneW) := dt_inj (by rw [data_app, B_data, B_data]; rfl)
  rw [hs2]
  obtain ⟨row4, h4, n4, g4, x4, r4⟩ := hear_spec (n := m) Y (s := B (joinW (tellW t) ++ 32 :: doneW)) (by rw [B_size]; simp [doneW]; omega) (by rw [B_size]; simp [doneW]; omega) h3 (n2 + 9) (fun n' hn' => by
    rw [B_data, hd2]
    split
    · exact small_of (t := { t with done := true }) hI.c1 hI.c2 hI.s1 hI.s2 m8 (by show t.data.length ≤ _; omega) (by show t.names.length ≤ _; omega) (by omega)
    · exact small_of (t := { t with names := t.names ++ [doneB] }) hI.c1 hI.c2 hI.s1 hI.s2 (fun x hx => by
        rcases List.mem_append.1 hx with hx | hx
        · exact m8 x hx
        · simp at hx; subst hx; decide) (by show t.data.length ≤ _; omega) (by simp; omega) (by omega))
  rw [B_data] at g4 r4
  rw [g4]
  obtain ⟨_, _, rfl, ⟨d4, dc4, rfl, _⟩, ⟨u4, uc4, rfl, _⟩⟩ := r4
  simp only [mst_, mst5_]
  rw [st_all (n := 5) (put_same _ _ _) rfl rfl rfl]
  obtain ⟨h5, hh5⟩ : ∃ h5, h5 = AHeap.put (AHeap.put h4 (n2 + 6) (some ⟨[.int .i64 0, .bool false, .int .i64 0, .slice none 0 none, .slice none 0 none], 5, true⟩)) (n2 + 6) (some ⟨[.int .i64 ((hearP (joinW (tellW t) ++ 32 :: doneW)).getD noTold).code, .bool ((hearP (joinW (tellW t) ++ 32 :: doneW)).getD noTold).done, .int .i64 ((hearP (joinW (tellW t) ++ 32 :: doneW)).getD noTold).size, .slice d4 (ob ((hearP (joinW (tellW t) ++ 32 :: doneW)).getD noTold).data).length dc4, .slice u4 ((hearP (joinW (tellW t) ++ 32 :: doneW)).getD noTold).names.length uc4], 5, true⟩) := ⟨_, rfl⟩
  rw [← hh5]
  have x5 : Ext h3 (n2 + 6) h5 (n4 + 24) := ⟨by have := x4.1; omega, fun j hj => by rw [hh5, put_ne (by omega), put_ne (by omega)]; exact x4.2 j (by omega)⟩
  have b5 := (x5.2 (n1 + 5) (by omega)).trans b3
  have ti5 := (x5.2 tb (by omega)).trans ti3
  have q3 := r3
  rw [if_pos (show ((0 : Int) == 0) = true from rfl), if_pos (show ((0 : Int) == 0) = true from rfl), ldr_all (n := 5) b5 rfl]
  simp only [mst_, mst5_]
  rw [ldr_all (n := 5) ti5 rfl]
  simp only [mst_, mst5_]
  have up : ∀ {r : List AV}, ToldR h3 n2 (fun _ => False) t r → ToldR h5 (n4 + 24) (fun _ => False) t r := fun {r} q => q.go ((x5.from (show n2 ≤ n2 + 6 by omega)).fr fun _ => False) (fun _ _ q => q) (fun _ _ q => q)
  have r5 : ToldR h5 (n4 + 24) (fun _ => False) t [.int .i64 t.code, .bool t.done, .int .i64 t.size, .slice d2 (ob t.data).length dc2, .slice u2 t.names.length uc2] := up
    (ToldR.go (A := Old (n1 + 8)) ⟨_, _, rfl, ⟨d2, dc2, rfl, b2, v2⟩, ⟨u2, uc2, rfl, t2, w2⟩⟩ (⟨Nat.le_refl _, fun j _ hj => o3 j hj⟩ : Frm (fun j => j = n1 + 5) h2 n2 h3 n2) (fun j _ q => by unfold Old; omega) (fun _ _ q => q.elim))
  have tr5 : ToldR h5 (n4 + 24) (fun _ => False) t [.int .i64 t.code, .bool t.done, .int .i64 t.size, .slice da (ob t.data).length dc, .slice ea t.names.length ec] := up (by
    have q : Ext h1 n1 h3 n2 := ⟨by omega, fun j hj => (o3 j (by omega)).trans (x2.2 j (by omega))⟩
    exact tr1.go (q.fr fun _ => False) (fun _ _ q => q) (fun _ _ q => q))
  obtain ⟨h6, n6, g6, _⟩ := same_told (n := m) (by omega) Y r5 tr5 (by rw [ob_len]; omega) (by omega)
  rw [g6]
  simp only [mst_, mst5_]
  rw [if_pos trivial, hd1]
  cases hdn : t.done
  · rw [if_pos (show (!false) = true from rfl)]
    refine ⟨h6, n6, ?_⟩
    congr 3
    by_cases c : t.names = []
    · rw [c, hk.1 c]; rfl
    · have hk0 : k ≠ 0 := fun q => c (hk.2 q)
      have e1 : t.names.isEmpty = false := by cases hn : t.names with | nil => exact absurd hn c | cons => rfl
      rw [e1]
      simp [hk0]
  · rw [if_neg (by simp)]
    exact ⟨_, _, rfl⟩

theorem told_run {n : Nat} (hn : 7000000 ≤ n) (Y : YldF) {h : AHeap} {nx : Nat} {x0 x1 : Int} {dn : Bool} {da na : Option (Nat × Nat)} (dc nc : Option Nat) {bs : List UInt8} {xs : List Int} (d : Sl h nx da (ob bs).length 1 (ints .u8 (ob bs))) (x : Sl h nx na xs.length 1 (ints .i64 xs)) (hd : bs.length ≤ 1500000) :
    ∃ h' nx', callP Tryd.prog keepT n Y 3 [.int .i64 x0, .int .i64 x1, .slice da (ob bs).length dc, .bool dn, .slice na xs.length nc] h nx = some (.bool true, h', nx') := by
  obtain ⟨n, rfl⟩ : ∃ m, n = m + 1 := ⟨n - 1, by omega⟩
  obtain ⟨p1, p2⟩ := pickL_bounds x0 14 (by decide)
  obtain ⟨q1, q2⟩ := pickL_bounds x1 1099511627776 (by decide)
  rw [F3_eq, picked_spec (by omega) Y x0 14 (by decide) (by decide)]
  simp only [mst_, mst5_]
  rw [picked_spec (by omega) Y x1 1099511627776 (by decide) (by decide)]
  simp only [mst_, mst5_]
  obtain ⟨rd, e1⟩ := d.src'
  rw [e1]
  simp only [mst_, mst5_]
  obtain ⟨e, f1, f2, f3, f4⟩ := copyOf (h := h) (nx := nx) (bytes := 1) (id := nx + 6) (rd := rd) d.1 (growOk_of (by rw [ob_len]; omega) (by omega)) (by omega)
  rw [f1]
  simp only [mst_, mst5_]
  rw [f2, st_all (n := 5) (put_same _ _ _) rfl rfl rfl]
  obtain ⟨h1, hh1⟩ : ∃ h1, h1 = AHeap.put (AHeap.put (h.puts e.sets) (nx + 9) (some ⟨[.int .i64 0, .bool false, .int .i64 0, .slice none 0 none, .slice none 0 none], 5, true⟩)) (nx + 9) (some ⟨[.int .i64 (pickL x0 14), .bool dn, .int .i64 (pickL x1 1099511627776), .slice e.a (ob bs).length e.c, .slice none 0 none], 5, true⟩) := ⟨_, rfl⟩
  rw [← hh1]
  have o1 : ∀ j, j ≠ nx + 9 → h1 j = (h.puts e.sets) j := fun j hj => by rw [hh1, put_ne hj, put_ne hj]
  have b1 : h1 (nx + 9) = some ⟨rowT ⟨pickL x0 14, dn, pickL x1 1099511627776, bs, (xs.take 0).map objName⟩ e.a none e.c none, 5, true⟩ := by rw [hh1, put_same]; rfl
  clear hh1
  have d1 : Sl h1 (nx + 10) e.a (ob bs).length 1 (ints .u8 (ob bs)) := (f3.ext ⟨show nx + 6 + 1 ≤ nx + 10 by omega, fun j hj => o1 j (by omega)⟩).sl
  have xq : Sl h1 nx na xs.length 1 (ints .i64 xs) := x.ext ⟨Nat.le_refl _, fun j hj => (o1 j (by omega)).trans (f4.2 j hj)⟩
  have hk1 : nx + 10 ≤ nx + 11 + pickK x0 14 + pickK x1 1099511627776 + 1 := by omega
  obtain ⟨h2, n2, ea, ec, g1, g2, g3, g4, g5, g6⟩ := told_names (m := n) (by omega) Y n (dn := dn) nc (xs := xs) (nx + 9) nx nx (min xs.length 6) n 0 _ h1 none none (by omega) (by omega) (by omega) (show nx + 9 < nx + 11 + pickK x0 14 + pickK x1 1099511627776 + 1 by omega) (Nat.le_refl _) b1 (d1.ext ⟨hk1, fun _ _ => rfl⟩) (fun _ _ _ ⟨o, q⟩ => by cases q) (OwnSl.nil _ _ _ _) xq
  rw [show ((0 : Nat) : Int) = 0 from rfl] at g1
  rw [g1]
  have od : ((xs.take 6).map objName).any oddN = false := by
    rw [List.any_eq_false]
    intro y hy
    obtain ⟨z, _, rfl⟩ := List.mem_map.1 hy
    rw [objName_odd]; simp
  have k := told_end (m := n) (t := ⟨pickL x0 14, dn, pickL x1 1099511627776, bs, (xs.take 6).map objName⟩) (k := xs.length) (na := na) (nc := nc) (by omega) Y n ⟨p1, by show pickL x0 14 ≤ _; omega, q1, by show pickL x1 _ ≤ _; omega, od⟩ (fun y hy => by
    obtain ⟨z, _, rfl⟩ := List.mem_map.1 hy
    have := (objN_ok _ (objName_mem z)).2.2
    omega) hd (by simp; omega) (by
      constructor
      · intro q
        have := congrArg List.length (show (xs.take 6).map objName = [] from q)
        simp at this; rw [this]; rfl
      · intro q
        have : xs = [] := List.length_eq_zero_iff.1 q
        subst this; rfl) (by omega) g4 g5 g6
  exact k
end Go.Proofs.YtahilinkfnchaaaDoor.T
