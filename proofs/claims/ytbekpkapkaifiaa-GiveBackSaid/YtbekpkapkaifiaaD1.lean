/- A drive: what it holds; clone, fault, settle. -/
import Derived.Test.YtbekpkapkaifiaaTK
import Derived.Test.YtbekpkapkaifiaaPc
set_option linter.unusedVariables false
set_option linter.unusedSimpArgs false
namespace Go.Proofs.Ytbekpkapkaifiaa.T
open Go Go.RowKit Go.Proofs

theorem clone_spec {f : Nat} (hf : 1 ≤ f) (Y : YldF) {h : AHeap} {nx nxs : Nat} {p : Nat × Nat} {n : Nat} (c : Bool) {vs : List AV} (hs : Sl h nxs (some p) n 1 vs) (hx : nxs ≤ nx) (hn : n ≤ 1000000) :
    ∃ a' c' h' nx', callP Try.prog keepT f Y 55 [.slice (some p) n c] h nx = some (.slice a' n c', h', nx') ∧ Ext h nx h' nx' ∧ OwnSl h' nx nx' a' n 1 vs := by
  obtain ⟨f, rfl⟩ : ∃ m, f = m + 1 := ⟨f - 1, by omega⟩
  have s1 : Sl (h.put (nx + 3) (some ⟨[], 1, true⟩)) (nx + 4) (some p) n 1 vs := hs.ext ⟨by omega, fun i hi => put_ne (by omega)⟩
  obtain ⟨rd, src⟩ := s1.src'
  have o1 : OwnSl (h.put (nx + 3) (some ⟨[], 1, true⟩)) nx (nx + 4) (some (nx + 3, 0)) 0 1 [] := ⟨by simp, .inr ⟨nx + 3, rfl, by omega, by omega, by simp⟩⟩
  obtain ⟨e, f1, f2, f3, f4, _⟩ := o1.appendS (c := true) (bytes := 1) (id := nx + 5) (k := n) (ws := vs) (rd := rd) hs.1 (growOk_of (by omega) (by omega)) (by omega) (by omega)
  rw [F55_eq, if_neg (by simp)]
  dsimp only
  rw [src]
  simp only [bind_some', asI_int, asB_bool, asStr_str, asP_ptr, asSl_sl, asAgg_1, asAgg_2, asAgg_3, asAgg_4, asTup_0, asTup_2, asTup_3, asTup_4, if_true', if_false', if_not_true', if_not_false', getD_0, getD_1, getD_2, getD_3]
  rw [f1]
  simp only [bind_some', asI_int, asB_bool, asStr_str, asP_ptr, asSl_sl, asAgg_1, asAgg_2, asAgg_3, asAgg_4, asTup_0, asTup_2, asTup_3, asTup_4, if_true', if_false', if_not_true', if_not_false', getD_0, getD_1, getD_2, getD_3]
  rw [f2, Nat.zero_add]
  rw [Nat.zero_add, List.nil_append] at f3
  exact ⟨_, _, _, _, rfl, ⟨by omega, fun i hi => (f4.2 i hi).trans (put_ne (by omega))⟩, f3.le (by omega)⟩

structure Sec where
  data : Option (List Int)
  broken : Bool
structure DS where
  plate : List Sec
  waits : List (Nat × List Int)
  dead : Bool
structure Job where
  kind : Int
  at_ : Int
  keep : Int
  data : List Int

def SecR (h : AHeap) (nx : Nat) (A : Nat → Prop) (s : Sec) (r : List AV) : Prop :=
  ∃ v, r = [v, .bool s.broken] ∧ ((s.data = none ∧ v = .slice none 0 false) ∨ ∃ bs, s.data = some bs ∧ bs.length = 128 ∧ Byt .u8 h nx A v bs)
def PutR (h : AHeap) (nx : Nat) (A : Nat → Prop) (w : Nat × List Int) (r : List AV) : Prop :=
  ∃ v, r = [.int .i64 (w.1 : Int), v] ∧ w.2.length = 128 ∧ Byt .u8 h nx A v w.2
def JobR (h : AHeap) (nx : Nat) (A : Nat → Prop) (j : Job) (r : List AV) : Prop :=
  ∃ v, r = [.int .i64 j.kind, .int .i64 j.at_, .int .i64 j.keep, v] ∧ Byt .u8 h nx A v j.data

theorem SecR.go {h h' : AHeap} {nx nx' : Nat} {A A' D : Nat → Prop} {s : Sec} {r : List AV} (w : SecR h nx A s r) (f : Frm D h nx h' nx') (d : ∀ i, i < nx → D i → A i) (g : ∀ i, i < nx → A' i → A i) : SecR h' nx' A' s r := by
  obtain ⟨v, e, q⟩ := w
  exact ⟨v, e, q.imp id fun ⟨bs, e1, e2, b⟩ => ⟨bs, e1, e2, b.go f d g⟩⟩
theorem PutR.go {h h' : AHeap} {nx nx' : Nat} {A A' D : Nat → Prop} {s : Nat × List Int} {r : List AV} (w : PutR h nx A s r) (f : Frm D h nx h' nx') (d : ∀ i, i < nx → D i → A i) (g : ∀ i, i < nx → A' i → A i) : PutR h' nx' A' s r := by
  obtain ⟨v, e, q, b⟩ := w
  exact ⟨v, e, q, b.go f d g⟩
theorem JobR.go {h h' : AHeap} {nx nx' : Nat} {A A' D : Nat → Prop} {s : Job} {r : List AV} (w : JobR h nx A s r) (f : Frm D h nx h' nx') (d : ∀ i, i < nx → D i → A i) (g : ∀ i, i < nx → A' i → A i) : JobR h' nx' A' s r := by
  obtain ⟨v, e, b⟩ := w
  exact ⟨v, e, b.go f d g⟩

/-- A drive in memory: the struct dv, the plate pl, what waits at wa. -/
structure Drv (h : AHeap) (nx : Nat) (A : Nat → Prop) (dv pl : Nat) (wa : Option (Nat × Nat)) (s : DS) : Prop where
  hd : ∃ c wc, h dv = some ⟨[.slice (some (pl, 0)) s.plate.length c, .slice wa s.waits.length wc, .bool s.dead], 3, true⟩
  hp : ∃ rows, All2 (SecR h nx A) s.plate rows ∧ (∀ r ∈ rows, r.length = 2) ∧ h pl = some ⟨rows.flatten, 2, true⟩
  hw : OwnRows (PutR h nx A) h nx wa 2 s.waits
  ld : dv < nx
  lp : pl < nx
  ne : dv ≠ pl
  nw : ∀ i, ownOf wa i → i ≠ dv ∧ i ≠ pl
  ad : A dv
  ap : A pl
  aw : ∀ i, ownOf wa i → A i

theorem Drv.go {h h' : AHeap} {nx nx' : Nat} {A A' D : Nat → Prop} {dv pl : Nat} {wa : Option (Nat × Nat)} {s : DS} (w : Drv h nx A dv pl wa s) (f : Frm D h nx h' nx') (d : ∀ i, i < nx → D i → A i) (g : ∀ i, i < nx → A' i → A i) (k : ∀ i, A i → A' i)
    (n1 : ¬ D dv) (n2 : ¬ D pl) (n3 : ∀ i, ownOf wa i → ¬ D i) : Drv h' nx' A' dv pl wa s := by
  obtain ⟨c, wc, e⟩ := w.hd
  obtain ⟨rows, q, len, ep⟩ := w.hp
  exact ⟨⟨c, wc, (f.2 _ w.ld n1).trans e⟩, ⟨rows, q.mono fun _ _ r => r.go f d g, len, (f.2 _ w.lp n2).trans ep⟩, w.hw.go f n3 (fun _ _ r => r.go f d g), by have := f.1; have := w.ld; omega, by have := f.1; have := w.lp; omega, w.ne, w.nw, k _ w.ad, k _ w.ap, fun i hi => k _ (w.aw i hi)⟩

/-- Job j is one that a drive of n sectors takes. -/
def JobOk (n : Nat) (j : Job) : Prop :=
  (j.kind = 1 ∧ 0 ≤ j.at_ ∧ j.at_ < n ∧ j.data.length = 128) ∨ (j.kind = 2 ∧ 0 ≤ j.at_ ∧ j.at_ < n) ∨ j.kind = 3 ∨ j.kind = 4 ∨ (j.kind = 5 ∧ 0 ≤ j.at_ ∧ j.at_ < n) ∨ (j.kind = 6 ∧ 0 ≤ j.at_ ∧ j.at_ < n ∧ j.data.length = 128) ∨ j.kind = 7 ∨ j.kind = 8

theorem fault_ok {f : Nat} (hf : 1 ≤ f) (Y : YldF) {h : AHeap} {nx : Nat} {A : Nat → Prop} {dv pl : Nat} {wa : Option (Nat × Nat)} {s : DS} (w : Drv h nx A dv pl wa s) {j : Job} (ok : JobOk s.plate.length j) (hd : s.dead = false ∨ j.kind = 8) (hn : s.plate.length ≤ 1000) (a : Option (Nat × Nat)) (c : Bool) :
    ∃ h' nx', callP Try.prog keepT f Y 54 [.ptr (some (dv, 0)), .agg [.int .i64 j.kind, .int .i64 j.at_, .int .i64 j.keep, .slice a j.data.length c]] h nx = some (.int .i64 0, h', nx') ∧ Ext h nx h' nx' := by
  obtain ⟨f, rfl⟩ : ∃ m, f = m + 1 := ⟨f - 1, by omega⟩
  obtain ⟨kd, at_, kp, dat⟩ := j
  obtain ⟨pc, wc, e⟩ := w.hd
  have ld := w.ld
  rw [F54_eq]
  dsimp only
  generalize hh1 : AHeap.put h nx _ = h1
  have e1 : h1 nx = some ⟨[.int .i64 kd, .int .i64 at_, .int .i64 kp, .slice a dat.length c], 4, true⟩ := by rw [← hh1, put_same]
  have ed : h1 dv = some ⟨[.slice (some (pl, 0)) s.plate.length pc, .slice wa s.waits.length wc, .bool s.dead], 3, true⟩ := by rw [← hh1, put_ne (by omega)]; exact e
  have x1 : ∀ m, nx ≤ m → Ext h nx h1 m := fun m hm => ⟨hm, fun i hi => by rw [← hh1, put_ne (by omega)]⟩
  simp only [JobOk] at ok hd
  have hk : 1 ≤ kd ∧ kd ≤ 8 := by rcases ok with q | q | q | q | q | q | q | q <;> omega
  rw [ld_at e1 (v := .int .i64 kd) rfl]
  simp only [bind_some', asI_int, asB_bool, asStr_str, asP_ptr, asSl_sl, asAgg_1, asAgg_2, asAgg_3, asAgg_4, asTup_0, asTup_2, asTup_3, asTup_4, if_true', if_false', if_not_true', if_not_false', getD_0, getD_1, getD_2, getD_3]
  rw [if_neg (by rw [decide_eq_true_eq]; omega), ld_at e1 (v := .int .i64 kd) rfl]
  simp only [bind_some', asI_int, asB_bool, asStr_str, asP_ptr, asSl_sl, asAgg_1, asAgg_2, asAgg_3, asAgg_4, asTup_0, asTup_2, asTup_3, asTup_4, if_true', if_false', if_not_true', if_not_false', getD_0, getD_1, getD_2, getD_3]
  rw [if_neg (by rw [decide_eq_true_eq]; omega)]
  rw [ld_at ed (v := .bool s.dead) rfl]
  simp only [bind_some', asI_int, asB_bool, asStr_str, asP_ptr, asSl_sl, asAgg_1, asAgg_2, asAgg_3, asAgg_4, asTup_0, asTup_2, asTup_3, asTup_4, if_true', if_false', if_not_true', if_not_false', getD_0, getD_1, getD_2, getD_3]
  have two : ∃ m, nx ≤ m ∧ ∃ r, F54_J1 (callP Try.prog keepT f) Y f (some (dv, 0)) (some (nx, 0)) h1 (nx + 21) = some (r, h1, m) ∧ r = .int .i64 0 := by
    rw [F54_J1_eq]
    simp only [bind_some', asI_int, asB_bool, asStr_str, asP_ptr, asSl_sl, asAgg_1, asAgg_2, asAgg_3, asAgg_4, asTup_0, asTup_2, asTup_3, asTup_4, if_true', if_false', if_not_true', if_not_false', getD_0, getD_1, getD_2, getD_3]
    rw [ld_at e1 (v := .int .i64 kd) rfl]
    simp only [bind_some', asI_int, asB_bool, asStr_str, asP_ptr, asSl_sl, asAgg_1, asAgg_2, asAgg_3, asAgg_4, asTup_0, asTup_2, asTup_3, asTup_4, if_true', if_false', if_not_true', if_not_false', getD_0, getD_1, getD_2, getD_3]
    have tail : ∀ m, nx ≤ m → (kd = 1 ∨ kd = 6 → dat.length = 128) → ∃ m', nx ≤ m' ∧ F54_J2 (callP Try.prog keepT f) Y f (some (nx, 0)) h1 m = some (.int .i64 0, h1, m') := by
      intro m hm hl
      refine ⟨m + 15, by omega, ?_⟩
      rw [F54_J2_eq]
      simp only [bind_some', asI_int, asB_bool, asStr_str, asP_ptr, asSl_sl, asAgg_1, asAgg_2, asAgg_3, asAgg_4, asTup_0, asTup_2, asTup_3, asTup_4, if_true', if_false', if_not_true', if_not_false', getD_0, getD_1, getD_2, getD_3]
      rw [ld_at e1 (v := .int .i64 kd) rfl]
      simp only [bind_some', asI_int, asB_bool, asStr_str, asP_ptr, asSl_sl, asAgg_1, asAgg_2, asAgg_3, asAgg_4, asTup_0, asTup_2, asTup_3, asTup_4, if_true', if_false', if_not_true', if_not_false', getD_0, getD_1, getD_2, getD_3]
      by_cases c1 : kd = 1
      · rw [if_pos (by simpa using c1), Nat.zero_add, ld_at e1 (v := .slice a dat.length c) rfl]
        simp only [bind_some', asI_int, asB_bool, asStr_str, asP_ptr, asSl_sl, asAgg_1, asAgg_2, asAgg_3, asAgg_4, asTup_0, asTup_2, asTup_3, asTup_4, if_true', if_false', if_not_true', if_not_false', getD_0, getD_1, getD_2, getD_3]
        rw [if_neg (by rw [hl (.inl c1)]; simp)]
      · rw [if_neg (by simpa using c1), ld_at e1 (v := .int .i64 kd) rfl]
        simp only [bind_some', asI_int, asB_bool, asStr_str, asP_ptr, asSl_sl, asAgg_1, asAgg_2, asAgg_3, asAgg_4, asTup_0, asTup_2, asTup_3, asTup_4, if_true', if_false', if_not_true', if_not_false', getD_0, getD_1, getD_2, getD_3]
        by_cases c6 : kd = 6
        · rw [if_pos (by simpa using c6), Nat.zero_add, ld_at e1 (v := .slice a dat.length c) rfl]
          simp only [bind_some', asI_int, asB_bool, asStr_str, asP_ptr, asSl_sl, asAgg_1, asAgg_2, asAgg_3, asAgg_4, asTup_0, asTup_2, asTup_3, asTup_4, if_true', if_false', if_not_true', if_not_false', getD_0, getD_1, getD_2, getD_3]
          rw [if_neg (by rw [hl (.inr c6)]; simp)]
        · rw [if_neg (by simpa using c6)]
    have rng : kd = 1 ∨ kd = 2 ∨ kd = 5 ∨ kd = 6 → 0 ≤ at_ ∧ at_ < s.plate.length := by
      intro q; rcases ok with z | z | z | z | z | z | z | z <;> first | exact ⟨z.2.1, z.2.2.1⟩ | exact ⟨z.2.1, z.2.2⟩ | omega
    have dl : kd = 1 ∨ kd = 6 → dat.length = 128 := by
      intro q; rcases ok with z | z | z | z | z | z | z | z <;> first | exact z.2.2.2 | omega
    by_cases c1 : kd = 1
    · obtain ⟨r1, r2⟩ := rng (.inl c1)
      obtain ⟨m', l, e'⟩ := tail (nx + 21 + 17) (by omega) dl
      rw [if_pos (by simpa using c1), if_pos (by simpa using c1), Nat.zero_add, ld_at e1 (v := .int .i64 at_) rfl]
      simp only [bind_some', asI_int, asB_bool, asStr_str, asP_ptr, asSl_sl, asAgg_1, asAgg_2, asAgg_3, asAgg_4, asTup_0, asTup_2, asTup_3, asTup_4, if_true', if_false', if_not_true', if_not_false', getD_0, getD_1, getD_2, getD_3]
      rw [if_neg (by rw [decide_eq_true_eq]; omega), ld_at e1 (v := .int .i64 at_) rfl]
      simp only [bind_some', asI_int, asB_bool, asStr_str, asP_ptr, asSl_sl, asAgg_1, asAgg_2, asAgg_3, asAgg_4, asTup_0, asTup_2, asTup_3, asTup_4, if_true', if_false', if_not_true', if_not_false', getD_0, getD_1, getD_2, getD_3]
      rw [ld_at ed (v := .slice (some (pl, 0)) s.plate.length pc) rfl]
      simp only [bind_some', asI_int, asB_bool, asStr_str, asP_ptr, asSl_sl, asAgg_1, asAgg_2, asAgg_3, asAgg_4, asTup_0, asTup_2, asTup_3, asTup_4, if_true', if_false', if_not_true', if_not_false', getD_0, getD_1, getD_2, getD_3]
      rw [if_neg (by rw [decide_eq_true_eq]; omega)]
      exact ⟨m', l, _, e', rfl⟩
    · rw [if_neg (by simpa using c1)]
      by_cases c2 : kd = 2
      · obtain ⟨r1, r2⟩ := rng (.inr (.inl c2))
        obtain ⟨m', l, e'⟩ := tail (nx + 21 + 19) (by omega) dl
        rw [if_pos (by simpa using c2), if_pos (by simpa using c2), Nat.zero_add, ld_at e1 (v := .int .i64 at_) rfl]
        simp only [bind_some', asI_int, asB_bool, asStr_str, asP_ptr, asSl_sl, asAgg_1, asAgg_2, asAgg_3, asAgg_4, asTup_0, asTup_2, asTup_3, asTup_4, if_true', if_false', if_not_true', if_not_false', getD_0, getD_1, getD_2, getD_3]
        rw [if_neg (by rw [decide_eq_true_eq]; omega), ld_at e1 (v := .int .i64 at_) rfl]
        simp only [bind_some', asI_int, asB_bool, asStr_str, asP_ptr, asSl_sl, asAgg_1, asAgg_2, asAgg_3, asAgg_4, asTup_0, asTup_2, asTup_3, asTup_4, if_true', if_false', if_not_true', if_not_false', getD_0, getD_1, getD_2, getD_3]
        rw [ld_at ed (v := .slice (some (pl, 0)) s.plate.length pc) rfl]
        simp only [bind_some', asI_int, asB_bool, asStr_str, asP_ptr, asSl_sl, asAgg_1, asAgg_2, asAgg_3, asAgg_4, asTup_0, asTup_2, asTup_3, asTup_4, if_true', if_false', if_not_true', if_not_false', getD_0, getD_1, getD_2, getD_3]
        rw [if_neg (by rw [decide_eq_true_eq]; omega)]
        exact ⟨m', l, _, e', rfl⟩
      · rw [if_neg (by simpa using c2)]
        by_cases c5 : kd = 5
        · obtain ⟨r1, r2⟩ := rng (.inr (.inr (.inl c5)))
          obtain ⟨m', l, e'⟩ := tail (nx + 21 + 21) (by omega) dl
          rw [if_pos (by simpa using c5), if_pos (by simpa using c5), Nat.zero_add, ld_at e1 (v := .int .i64 at_) rfl]
          simp only [bind_some', asI_int, asB_bool, asStr_str, asP_ptr, asSl_sl, asAgg_1, asAgg_2, asAgg_3, asAgg_4, asTup_0, asTup_2, asTup_3, asTup_4, if_true', if_false', if_not_true', if_not_false', getD_0, getD_1, getD_2, getD_3]
          rw [if_neg (by rw [decide_eq_true_eq]; omega), ld_at e1 (v := .int .i64 at_) rfl]
          simp only [bind_some', asI_int, asB_bool, asStr_str, asP_ptr, asSl_sl, asAgg_1, asAgg_2, asAgg_3, asAgg_4, asTup_0, asTup_2, asTup_3, asTup_4, if_true', if_false', if_not_true', if_not_false', getD_0, getD_1, getD_2, getD_3]
          rw [ld_at ed (v := .slice (some (pl, 0)) s.plate.length pc) rfl]
          simp only [bind_some', asI_int, asB_bool, asStr_str, asP_ptr, asSl_sl, asAgg_1, asAgg_2, asAgg_3, asAgg_4, asTup_0, asTup_2, asTup_3, asTup_4, if_true', if_false', if_not_true', if_not_false', getD_0, getD_1, getD_2, getD_3]
          rw [if_neg (by rw [decide_eq_true_eq]; omega)]
          exact ⟨m', l, _, e', rfl⟩
        · rw [if_neg (by simpa using c5)]
          by_cases c6 : kd = 6
          · obtain ⟨r1, r2⟩ := rng (.inr (.inr (.inr c6)))
            obtain ⟨m', l, e'⟩ := tail (nx + 21 + 23) (by omega) dl
            rw [if_pos (by simpa using c6), Nat.zero_add, ld_at e1 (v := .int .i64 at_) rfl]
            simp only [bind_some', asI_int, asB_bool, asStr_str, asP_ptr, asSl_sl, asAgg_1, asAgg_2, asAgg_3, asAgg_4, asTup_0, asTup_2, asTup_3, asTup_4, if_true', if_false', if_not_true', if_not_false', getD_0, getD_1, getD_2, getD_3]
            rw [if_neg (by rw [decide_eq_true_eq]; omega), ld_at e1 (v := .int .i64 at_) rfl]
            simp only [bind_some', asI_int, asB_bool, asStr_str, asP_ptr, asSl_sl, asAgg_1, asAgg_2, asAgg_3, asAgg_4, asTup_0, asTup_2, asTup_3, asTup_4, if_true', if_false', if_not_true', if_not_false', getD_0, getD_1, getD_2, getD_3]
            rw [ld_at ed (v := .slice (some (pl, 0)) s.plate.length pc) rfl]
            simp only [bind_some', asI_int, asB_bool, asStr_str, asP_ptr, asSl_sl, asAgg_1, asAgg_2, asAgg_3, asAgg_4, asTup_0, asTup_2, asTup_3, asTup_4, if_true', if_false', if_not_true', if_not_false', getD_0, getD_1, getD_2, getD_3]
            rw [if_neg (by rw [decide_eq_true_eq]; omega)]
            exact ⟨m', l, _, e', rfl⟩
          · rw [if_neg (by simpa using c6)]
            exact ⟨nx + 21 + 11, by omega, _, rfl, rfl⟩
  obtain ⟨m, lm, r, er, rfl⟩ := two
  rcases hd with hd | hd
  · rw [hd, if_false', er]
    exact ⟨_, _, rfl, x1 _ lm⟩
  · cases hdd : s.dead with
    | false => rw [if_false', er]; exact ⟨_, _, rfl, x1 _ lm⟩
    | true =>
      rw [if_true', ld_at e1 (v := .int .i64 kd) rfl]
      simp only [bind_some', asI_int, asB_bool, asStr_str, asP_ptr, asSl_sl, asAgg_1, asAgg_2, asAgg_3, asAgg_4, asTup_0, asTup_2, asTup_3, asTup_4, if_true', if_false', if_not_true', if_not_false', getD_0, getD_1, getD_2, getD_3]
      rw [if_neg (by rw [hd]; decide), er]
      exact ⟨_, _, rfl, x1 _ lm⟩

theorem fault_dead {f : Nat} (hf : 1 ≤ f) (Y : YldF) {h : AHeap} {nx : Nat} {A : Nat → Prop} {dv pl : Nat} {wa : Option (Nat × Nat)} {s : DS} (w : Drv h nx A dv pl wa s) {j : Job} (k1 : 1 ≤ j.kind) (k2 : j.kind < 8) (hd : s.dead = true) (a : Option (Nat × Nat)) (c : Bool) :
    ∃ h' nx', callP Try.prog keepT f Y 54 [.ptr (some (dv, 0)), .agg [.int .i64 j.kind, .int .i64 j.at_, .int .i64 j.keep, .slice a j.data.length c]] h nx = some (.int .i64 13, h', nx') ∧ Ext h nx h' nx' := by
  obtain ⟨f, rfl⟩ : ∃ m, f = m + 1 := ⟨f - 1, by omega⟩
  obtain ⟨kd, at_, kp, dat⟩ := j
  obtain ⟨pc, wc, e⟩ := w.hd
  have ld := w.ld
  simp only at k1 k2
  rw [F54_eq]
  dsimp only
  generalize hh1 : AHeap.put h nx _ = h1
  have e1 : h1 nx = some ⟨[.int .i64 kd, .int .i64 at_, .int .i64 kp, .slice a dat.length c], 4, true⟩ := by rw [← hh1, put_same]
  have ed : h1 dv = some ⟨[.slice (some (pl, 0)) s.plate.length pc, .slice wa s.waits.length wc, .bool s.dead], 3, true⟩ := by rw [← hh1, put_ne (by omega)]; exact e
  rw [ld_at e1 (v := .int .i64 kd) rfl]
  simp only [bind_some', asI_int, asB_bool, asStr_str, asP_ptr, asSl_sl, asAgg_1, asAgg_2, asAgg_3, asAgg_4, asTup_0, asTup_2, asTup_3, asTup_4, if_true', if_false', if_not_true', if_not_false', getD_0, getD_1, getD_2, getD_3]
  rw [if_neg (by rw [decide_eq_true_eq]; omega), ld_at e1 (v := .int .i64 kd) rfl]
  simp only [bind_some', asI_int, asB_bool, asStr_str, asP_ptr, asSl_sl, asAgg_1, asAgg_2, asAgg_3, asAgg_4, asTup_0, asTup_2, asTup_3, asTup_4, if_true', if_false', if_not_true', if_not_false', getD_0, getD_1, getD_2, getD_3]
  rw [if_neg (by rw [decide_eq_true_eq]; omega)]
  rw [ld_at ed (v := .bool s.dead) rfl]
  simp only [bind_some', asI_int, asB_bool, asStr_str, asP_ptr, asSl_sl, asAgg_1, asAgg_2, asAgg_3, asAgg_4, asTup_0, asTup_2, asTup_3, asTup_4, if_true', if_false', if_not_true', if_not_false', getD_0, getD_1, getD_2, getD_3]
  rw [hd, if_true', ld_at e1 (v := .int .i64 kd) rfl]
  simp only [bind_some', asI_int, asB_bool, asStr_str, asP_ptr, asSl_sl, asAgg_1, asAgg_2, asAgg_3, asAgg_4, asTup_0, asTup_2, asTup_3, asTup_4, if_true', if_false', if_not_true', if_not_false', getD_0, getD_1, getD_2, getD_3]
  rw [if_pos (by rw [bne_iff_ne]; omega)]
  exact ⟨_, _, rfl, by omega, fun i hi => by rw [← hh1, put_ne (by omega)]⟩

end Go.Proofs.Ytbekpkapkaifiaa.T
