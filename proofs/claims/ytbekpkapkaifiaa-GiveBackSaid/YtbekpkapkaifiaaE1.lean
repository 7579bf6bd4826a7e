/- A space in memory: set, all, runs. -/
import Derived.Test.YtbekpkapkaifiaaD6
set_option linter.unusedVariables false
set_option linter.unusedSimpArgs false
namespace Go.Proofs.Ytbekpkapkaifiaa.T
open Go Go.RowKit Go.Proofs

structure SP where
  u : List Int
  free : Int
  log : List (Bool × Int × Int)
def RecR (x : Bool × Int × Int) (r : List AV) : Prop := r = [.bool x.1, .int .i64 x.2.1, .int .i64 x.2.2]
def RgR (x : Nat × Nat) (r : List AV) : Prop := r = [.int .i64 (x.1 : Int), .int .i64 (x.2 : Int)]
/-- A space: the struct sp, its units ub, its log la. -/
structure Spc (h : AHeap) (nx sp ub : Nat) (la : Option (Nat × Nat)) (s : SP) : Prop where
  hd : ∃ c lc, h sp = some ⟨[.slice (some (ub, 0)) s.u.length c, .int .i64 s.free, .slice la s.log.length lc], 3, true⟩
  hu : h ub = some ⟨ints .u8 s.u, 1, true⟩
  hl : OwnRows RecR h nx la 3 s.log
  ls : sp < nx
  lu : ub < nx
  ne : sp ≠ ub
  nl : ∀ i, ownOf la i → i ≠ sp ∧ i ≠ ub
theorem Spc.ext {h h' : AHeap} {nx nx' sp ub : Nat} {la : Option (Nat × Nat)} {s : SP} (w : Spc h nx sp ub la s) (x : Ext h nx h' nx') : Spc h' nx' sp ub la s := by
  obtain ⟨c, lc, e⟩ := w.hd
  exact ⟨⟨c, lc, (x.2 _ w.ls).trans e⟩, (x.2 _ w.lu).trans w.hu, w.hl.go (x.fr fun _ => False) (fun _ _ q => q) (fun _ _ q => q), by have := x.1; have := w.ls; omega, by have := x.1; have := w.lu; omega, w.ne, w.nl⟩

def setR (v : Int) : List Int → Nat → Nat → List Int
  | u, _, 0 => u
  | u, a, n + 1 => setR v (u.set a v) (a + 1) n
theorem setR_len (v : Int) : ∀ (n a : Nat) (u : List Int), (setR v u a n).length = u.length
  | 0, a, u => rfl
  | n + 1, a, u => by simp only [setR]; rw [setR_len v n]; simp
theorem setR_get (v : Int) : ∀ (n a : Nat) (u : List Int) (i : Nat), a + n ≤ u.length → (setR v u a n)[i]? = if a ≤ i ∧ i < a + n then some v else u[i]?
  | 0, a, u, i, _ => by simp only [setR]; rw [if_neg (by omega)]
  | n + 1, a, u, i, h => by
    simp only [setR]
    rw [setR_get v n (a + 1) _ i (by simp; omega), List.getElem?_set]
    by_cases e : a = i
    · rw [if_neg (by omega), if_pos e, if_pos (by omega), if_pos (by omega)]
    · by_cases c : a + 1 ≤ i ∧ i < a + 1 + n
      · rw [if_pos c, if_pos (by omega)]
      · rw [if_neg c, if_neg e, if_neg (by omega)]

theorem set_loop {f : Nat} {Y : YldF} {sp ub b : Nat} {n : Nat} {cells : List AV} {v : Int} {hi : Nat} {fr lo : Int} {c : Bool} {rest : List AV} (hne : sp ≠ ub) (hnb : b ≠ ub) {h0 : AHeap} {n0 : Nat} (hub : ub < n0) (d : Nat) :
    ∀ (lf k : Nat) (u : List Int) (h : AHeap) (nx : Nat), k + d = hi → d < lf → hi ≤ u.length → u.length ≤ 100000 → Frm (fun i => i = ub) h0 n0 h nx → u.length = n → h sp = some ⟨.slice (some (ub, 0)) n c :: rest, 3, true⟩ → h b = some ⟨[.int .i64 lo, .int .i64 (hi : Int)], 2, true⟩ → h ub = some ⟨ints .u8 u, 1, true⟩ →
      ∃ h' nx', F62_L1 (callP Try.prog keepT f) Y f lf (some (sp, 0)) v (some (b, 0)) (k : Int) h nx = some (.tuple [], h', nx') ∧ Frm (fun i => i = ub) h0 n0 h' nx' ∧ nx ≤ nx' ∧ h' ub = some ⟨ints .u8 (setR v u k d), 1, true⟩ := by
  induction d with
  | zero =>
    intro lf k u h nx e hl hh hu fr0 hn hs hb hv
    obtain ⟨lf, rfl⟩ : ∃ m, lf = m + 1 := ⟨lf - 1, by omega⟩
    rw [F62_L1_eq]
    simp only [bind_some', asI_int, asB_bool, asStr_str, asP_ptr, asSl_sl, asAgg_1, asAgg_2, asAgg_3, asAgg_4, asTup_0, asTup_2, asTup_3, asTup_4, if_true', if_false', if_not_true', if_not_false', getD_0, getD_1, getD_2, getD_3]
    rw [Nat.zero_add, ld_at hb (v := .int .i64 (hi : Int)) rfl]
    simp only [bind_some', asI_int, asB_bool, asStr_str, asP_ptr, asSl_sl, asAgg_1, asAgg_2, asAgg_3, asAgg_4, asTup_0, asTup_2, asTup_3, asTup_4, if_true', if_false', if_not_true', if_not_false', getD_0, getD_1, getD_2, getD_3]
    rw [if_neg (by rw [decide_eq_true_eq]; omega)]
    exact ⟨_, _, rfl, fr0.le (by omega), by omega, hv⟩
  | succ d ih =>
    intro lf k u h nx e hl hh hu fr0 hn hs hb hv
    obtain ⟨lf, rfl⟩ : ∃ m, lf = m + 1 := ⟨lf - 1, by omega⟩
    rw [F62_L1_eq]
    simp only [bind_some', asI_int, asB_bool, asStr_str, asP_ptr, asSl_sl, asAgg_1, asAgg_2, asAgg_3, asAgg_4, asTup_0, asTup_2, asTup_3, asTup_4, if_true', if_false', if_not_true', if_not_false', getD_0, getD_1, getD_2, getD_3]
    rw [Nat.zero_add, ld_at hb (v := .int .i64 (hi : Int)) rfl]
    simp only [bind_some', asI_int, asB_bool, asStr_str, asP_ptr, asSl_sl, asAgg_1, asAgg_2, asAgg_3, asAgg_4, asTup_0, asTup_2, asTup_3, asTup_4, if_true', if_false', if_not_true', if_not_false', getD_0, getD_1, getD_2, getD_3]
    rw [if_pos (decide_eq_true (by omega)), ld_at hs (v := .slice (some (ub, 0)) n c) rfl]
    simp only [bind_some', asI_int, asB_bool, asStr_str, asP_ptr, asSl_sl, asAgg_1, asAgg_2, asAgg_3, asAgg_4, asTup_0, asTup_2, asTup_3, asTup_4, if_true', if_false', if_not_true', if_not_false', getD_0, getD_1, getD_2, getD_3]
    rw [if_pos ⟨by omega, by omega⟩, Nat.zero_add, Nat.mul_one, Int.toNat_natCast, st_one hv rfl (by simp [ints]; omega)]
    rw [wsucc (by omega)]
    have hset : (ints .u8 u).set k (.int .u8 v) = ints .u8 (u.set k v) := by unfold ints; rw [List.map_set]
    rw [hset]
    obtain ⟨h', nx', g1, g2, g3, g4⟩ := ih lf (k + 1) (u.set k v) (h.put ub (some ⟨ints .u8 (u.set k v), 1, true⟩)) (nx + 15) (by omega) (by omega) (by simp; omega) (by simp; omega) (fr0.put (.inl rfl) (by omega)) (by simp [hn]) ((put_ne hne).trans hs) ((put_ne hnb).trans hb) (put_same _ _ _)
    exact ⟨h', nx', g1, g2, by omega, g4⟩

theorem set_spec {f : Nat} {Y : YldF} {h : AHeap} {nx sp ub : Nat} {la : Option (Nat × Nat)} {s : SP} (w : Spc h nx sp ub la s) {a b : Nat} (hab : a ≤ b) (hb : b ≤ s.u.length) (hu : s.u.length ≤ 100000) (hf : s.u.length + 3 ≤ f) (v : Int) :
    ∃ h' nx', callP Try.prog keepT f Y 62 [.ptr (some (sp, 0)), .agg [.int .i64 (a : Int), .int .i64 (b : Int)], .int .u8 v] h nx = some (.tuple [], h', nx') ∧ Frm (fun i => i = ub) h nx h' nx' ∧ Spc h' nx' sp ub la ⟨setR v s.u a (b - a), s.free, s.log⟩ := by
  obtain ⟨f, rfl⟩ : ∃ m, f = m + 1 := ⟨f - 1, by omega⟩
  obtain ⟨c, lc, e⟩ := w.hd
  have ls := w.ls; have lu := w.lu
  rw [F62_eq]
  dsimp only
  have e1 := put_same h nx (some ⟨[.int .i64 (a : Int), .int .i64 (b : Int)], 2, true⟩)
  rw [ld_at e1 (v := .int .i64 (a : Int)) rfl]
  simp only [bind_some', asI_int, asB_bool, asStr_str, asP_ptr, asSl_sl, asAgg_1, asAgg_2, asAgg_3, asAgg_4, asTup_0, asTup_2, asTup_3, asTup_4, if_true', if_false', if_not_true', if_not_false', getD_0, getD_1, getD_2, getD_3]
  obtain ⟨h', nx', g1, g2, g3, g4⟩ := set_loop (f := f) (Y := Y) (sp := sp) (ub := ub) (b := nx) (v := v) (hi := b) (lo := (a : Int)) (c := c) (fr := 0) (cells := []) w.ne (by omega) (h0 := h) (n0 := nx) lu (b - a) f a s.u (h.put nx (some ⟨[.int .i64 (a : Int), .int .i64 (b : Int)], 2, true⟩)) (nx + 4) (by omega) (by omega) hb hu ((Frm.refl _ h nx).put (.inr (by omega)) (by omega)) rfl ((put_ne (by omega)).trans e) e1 ((put_ne (by omega)).trans w.hu)
  have l := g2.1
  exact ⟨h', nx', g1, g2, ⟨c, lc, by rw [setR_len]; exact (g2.2 sp ls w.ne).trans e⟩, g4, w.hl.go g2 (fun i q => (w.nl i q).2) (fun _ _ q => q), by omega, by omega, w.ne, w.nl⟩

theorem all_loop' {f : Nat} {Y : YldF} {h : AHeap} {n0 : Nat} {xa : Option (Nat × Nat)} {xc : Bool} {u : List Int} {v : Int} (su : Sl h n0 xa u.length 1 (ints .u8 u)) (hu : u.length ≤ 100000) (d : Nat) :
    ∀ (lf k nx : Nat), k + d = u.length → d < lf → ∃ m, nx ≤ m ∧ F61_L1 (callP Try.prog keepT f) Y f lf v xa u.length xc (u.length : Int) (k : Int) h nx = some (.bool ((u.drop k).all (fun x => decide (x = v))), h, m) := by
  induction d with
  | zero =>
    intro lf k nx e hl
    obtain ⟨lf, rfl⟩ : ∃ m, lf = m + 1 := ⟨lf - 1, by omega⟩
    obtain rfl : k = u.length := by omega
    rw [F61_L1_eq, if_neg (by rw [decide_eq_true_eq]; omega)]
    exact ⟨_, Nat.le_add_right _ 2, by rw [List.drop_length]; rfl⟩
  | succ d ih =>
    intro lf k nx e hl
    obtain ⟨lf, rfl⟩ : ∃ m, lf = m + 1 := ⟨lf - 1, by omega⟩
    have hk : k < u.length := by omega
    rw [F61_L1_eq, if_pos (decide_eq_true (by omega)), su.read0 (v := .int .u8 u[k]) (i := k) (by omega) (by omega) (by omega) (by simp [ints, hk])]
    simp only [bind_some', asI_int, asB_bool, asStr_str, asP_ptr, asSl_sl, asAgg_1, asAgg_2, asAgg_3, asAgg_4, asTup_0, asTup_2, asTup_3, asTup_4, if_true', if_false', if_not_true', if_not_false', getD_0, getD_1, getD_2, getD_3]
    rw [List.drop_eq_getElem_cons hk, List.all_cons]
    by_cases c : u[k] = v
    · rw [if_neg (by simp [c]), wsucc (by omega)]
      obtain ⟨m, l, q⟩ := ih lf (k + 1) (nx + 9) (by omega) (by omega)
      exact ⟨m, by omega, by rw [q, decide_eq_true c, Bool.true_and]⟩
    · rw [if_pos (by simpa using c)]
      exact ⟨_, Nat.le_add_right _ 8, by rw [decide_eq_false c, Bool.false_and]⟩

theorem all_spec {f : Nat} {Y : YldF} {h : AHeap} {nx sp ub : Nat} {la : Option (Nat × Nat)} {s : SP} (w : Spc h nx sp ub la s) {a b : Nat} (hab : a ≤ b) (hb : b ≤ s.u.length) (hu : s.u.length ≤ 100000) (hf : s.u.length + 3 ≤ f) (v : Int) :
    ∃ h' nx', callP Try.prog keepT f Y 61 [.ptr (some (sp, 0)), .agg [.int .i64 (a : Int), .int .i64 (b : Int)], .int .u8 v] h nx = some (.bool (((s.u.drop a).take (b - a)).all (fun x => decide (x = v))), h', nx') ∧ Ext h nx h' nx' := by
  obtain ⟨f, rfl⟩ : ∃ m, f = m + 1 := ⟨f - 1, by omega⟩
  obtain ⟨c, lc, e⟩ := w.hd
  have ls := w.ls; have lu := w.lu
  rw [F61_eq]
  simp only [bind_some', asI_int, asB_bool, asStr_str, asP_ptr, asSl_sl, asAgg_1, asAgg_2, asAgg_3, asAgg_4, asTup_0, asTup_2, asTup_3, asTup_4, if_true', if_false', if_not_true', if_not_false', getD_0, getD_1, getD_2, getD_3]
  have e1 := put_same h nx (some ⟨[.int .i64 (a : Int), .int .i64 (b : Int)], 2, true⟩)
  have x1 : Ext h nx (h.put nx (some ⟨[.int .i64 (a : Int), .int .i64 (b : Int)], 2, true⟩)) (nx + 1) := ⟨by omega, fun i hi => put_ne (by omega)⟩
  generalize h.put nx (some ⟨[.int .i64 (a : Int), .int .i64 (b : Int)], 2, true⟩) = h1 at *
  rw [ld_at ((x1.2 _ ls).trans e) (v := .slice (some (ub, 0)) s.u.length c) rfl]
  simp only [bind_some', asI_int, asB_bool, asStr_str, asP_ptr, asSl_sl, asAgg_1, asAgg_2, asAgg_3, asAgg_4, asTup_0, asTup_2, asTup_3, asTup_4, if_true', if_false', if_not_true', if_not_false', getD_0, getD_1, getD_2, getD_3]
  rw [ld_at e1 (v := .int .i64 (a : Int)) rfl]
  simp only [bind_some', asI_int, asB_bool, asStr_str, asP_ptr, asSl_sl, asAgg_1, asAgg_2, asAgg_3, asAgg_4, asTup_0, asTup_2, asTup_3, asTup_4, if_true', if_false', if_not_true', if_not_false', getD_0, getD_1, getD_2, getD_3]
  rw [ld_at e1 (v := .int .i64 (b : Int)) rfl]
  simp only [bind_some', asI_int, asB_bool, asStr_str, asP_ptr, asSl_sl, asAgg_1, asAgg_2, asAgg_3, asAgg_4, asTup_0, asTup_2, asTup_3, asTup_4, if_true', if_false', if_not_true', if_not_false', getD_0, getD_1, getD_2, getD_3]
  have os : OwnSl h1 0 (nx + 1) (some (ub, 0)) s.u.length 1 (ints .u8 s.u) := ⟨by simp [ints], .inr ⟨ub, rfl, by omega, by omega, (x1.2 _ lu).trans w.hu⟩⟩
  obtain ⟨p1, p2, _⟩ := os.sl.cut c hab hb (l := some (.int .i64 (a : Int))) (r := some (.int .i64 (b : Int))) (bound_some hab) (bound_some hb)
  rw [p1]
  simp only [bind_some', asI_int, asB_bool, asStr_str, asP_ptr, asSl_sl, asAgg_1, asAgg_2, asAgg_3, asAgg_4, asTup_0, asTup_2, asTup_3, asTup_4, if_true', if_false', if_not_true', if_not_false', getD_0, getD_1, getD_2, getD_3]
  have hlen : ((s.u.drop a).take (b - a)).length = b - a := by simp; omega
  have p3 : Sl h1 (nx + 1) (shiftAddr (some (ub, 0)) (a * 1)) ((s.u.drop a).take (b - a)).length 1 (ints .u8 ((s.u.drop a).take (b - a))) := by
    rw [hlen]
    have : ints .u8 ((s.u.drop a).take (b - a)) = ((ints .u8 s.u).drop (a * 1)).take ((b - a) * 1) := by unfold ints; rw [Nat.mul_one, Nat.mul_one, List.map_take, List.map_drop]
    rw [this]; exact p2
  obtain ⟨m, l, q⟩ := all_loop' (f := f) (Y := Y) (xc := c && b == s.u.length) (v := v) p3 (by omega) (b - a) f 0 (nx + 13) (by omega) (by omega)
  rw [hlen] at q
  exact ⟨h1, m, q, ⟨by omega, x1.2⟩⟩

end Go.Proofs.Ytbekpkapkaifiaa.T
