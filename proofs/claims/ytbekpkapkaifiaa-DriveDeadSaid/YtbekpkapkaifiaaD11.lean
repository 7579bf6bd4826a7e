/- DriveLast. -/
import Derived.Test.YtbekpkapkaifiaaD10
set_option linter.unusedVariables false
set_option linter.unusedSimpArgs false
namespace Go.Proofs.Ytbekpkapkaifiaa.T
open Go Go.RowKit Go.Proofs

abbrev ActSh : Sh := .st [.int .i64, .int .i64, .int .i64, .int .i64]
theorem acts_of {h : AHeap} {nx : Nat} : ∀ {cells : List (List AV)}, (∀ c ∈ cells, Ty h nx ActSh c) → ∃ l : List Act, cells = l.map Act.row
  | [], _ => ⟨[], rfl⟩
  | c :: cells, w => by
    obtain ⟨l, hl⟩ := acts_of (fun x hx => w x (List.mem_cons_of_mem _ hx))
    have t := w c List.mem_cons_self
    simp only [Ty, TyL] at t
    obtain ⟨ps, rfl, p1, r1, rfl, ⟨a, rfl, _⟩, p2, r2, rfl, ⟨b, rfl, _⟩, p3, r3, rfl, ⟨d, rfl, _⟩, p4, r4, rfl, ⟨e, rfl, _⟩, rfl⟩ := t
    exact ⟨⟨a, b, d, e⟩ :: l, by rw [hl]; rfl⟩

def wantL (i : Nat) : List Job → List Int → List Int
  | [], w => w
  | j :: js, w => wantL i js (if j.kind = 1 ∧ j.at_ = (i : Int) then j.data else w)
theorem want_V {i : Nat} (hi : i < 8) : ∀ {js : List Job} {s : DS}, Gd s → (∀ j ∈ js, JobG j ∧ j.kind ≤ 3) → V (stL s js) i = wantL i js (V s i)
  | [], s, g, _ => rfl
  | j :: js, s, g, h => by
    obtain ⟨q, q3⟩ := h j List.mem_cons_self
    show V (stL (doL s j).1 js) i = wantL i js (if j.kind = 1 ∧ j.at_ = (i : Int) then j.data else V s i)
    rw [want_V hi (do_gd g q) (fun x hx => h x (List.mem_cons_of_mem _ hx))]
    congr 1
    rcases q with ⟨k, a1, a2, a3⟩ | ⟨k, a1, a2⟩ | k | k | ⟨k, _⟩
    · rw [do1 g k, V_put]
      by_cases e : j.at_ = (i : Int)
      · rw [if_pos (by omega), if_pos ⟨k, e⟩]
      · rw [if_neg (by omega), if_neg (fun q => e q.2)]
    · rw [do2 g k, if_neg (by rw [k]; simp)]
    · rw [do3 g k, V_flush g hi, if_neg (by rw [k]; simp)]
    · omega
    · omega

/-- Acts' jobs are harmless when the kinds are. -/
theorem actsL_ok {ks : List Int} (h0 : 0 < ks.length) {m : Nat} {l : List Act} {P : Int → Prop} (hk : ∀ k ∈ ks, P k) : ∀ j ∈ actsL ks m l, P j.kind ∧ 0 ≤ j.at_ ∧ j.at_ < 8 ∧ (j.kind = 1 ∨ j.kind = 6 → j.data.length = 128) := by
  intro j hj
  obtain ⟨a, _, rfl⟩ := List.mem_map.1 hj
  have P1 := pickL_in (x := a.k) (n := (ks.length : Int)) (by omega)
  have P2 := pickL_in (x := a.w) (n := 8) (by omega)
  simp only [actL]
  refine ⟨hk _ ?_, P2.1, P2.2, fun q => by rw [if_pos q, secL_len]⟩
  rw [List.getD_eq_getElem?_getD, List.getElem?_eq_getElem (by omega)]
  exact List.getElem_mem _

theorem last_loop {f : Nat} (hf : 1010 ≤ f) {Y : YldF} {h : AHeap} {n0 i : Nat} (hi : i < 8) {xa ga : Option (Nat × Nat)} {xc gc : Bool} {jobs : List Job} (w : Rows (JobR h n0 fun _ => False) h n0 (fun _ => False) xa 4 jobs) (hj : jobs.length ≤ 1000) (ok : ∀ j ∈ jobs, j.kind = 1 → j.data.length = 128) {got : List (List Int)} (wg : BytL h n0 ga got) (hg : got.length = 8) {gi : List Int} (hgi : got[i]? = some gi) (hgl : gi.length = 128) (d : Nat) :
    ∀ (lf k nx : Nat) (cur : List Int) (ca : Option (Nat × Nat)) (cc : Bool), k + d = jobs.length → d < lf → cur.length = 128 → Sl h n0 ca 128 1 (ints .u8 cur) →
      ∃ m, F6_L1 (callP Try.prog keepT f) Y f lf xa jobs.length xc ga 8 gc (i : Int) ca 128 cc (k : Int) h nx = some (.bool (decide (gi = wantL i (jobs.drop k) cur)), h, m) := by
  induction d with
  | zero =>
    intro lf k nx cur ca cc e hl hc sc
    obtain ⟨lf, rfl⟩ : ∃ m, lf = m + 1 := ⟨lf - 1, by omega⟩
    obtain rfl : k = jobs.length := by omega
    obtain ⟨r1, ⟨w1, rfl, a1, c1, rfl, s1, _⟩, _, rd1⟩ := wg.read0 (R := Res) hgi (by omega)
    rw [hg] at rd1
    rw [F6_L1_eq, if_neg (by rw [decide_eq_true_eq]; omega), rd1 _ _ rfl]
    simp only [bind_some', asI_int, asB_bool, asStr_str, asP_ptr, asSl_sl, asAgg_1, asAgg_2, asAgg_3, asAgg_4, asTup_0, asTup_2, asTup_3, asTup_4, if_true', if_false', if_not_true', if_not_false', getD_0, getD_1, getD_2, getD_3]
    have sc' : Sl h n0 ca cur.length 1 (ints .u8 cur) := by rw [hc]; exact sc
    obtain ⟨m1, l1, g1⟩ := same_spec hf Y c1 cc s1 sc' (by omega) (nx + 11)
    rw [hc] at g1
    rw [g1]
    simp only [bind_some', asI_int, asB_bool, asStr_str, asP_ptr, asSl_sl, asAgg_1, asAgg_2, asAgg_3, asAgg_4, asTup_0, asTup_2, asTup_3, asTup_4, if_true', if_false', if_not_true', if_not_false', getD_0, getD_1, getD_2, getD_3]
    rw [List.drop_length]
    exact ⟨m1, rfl⟩
  | succ d ih =>
    intro lf k nx cur ca cc e hl hc sc
    obtain ⟨lf, rfl⟩ : ∃ m, lf = m + 1 := ⟨lf - 1, by omega⟩
    have hk : k < jobs.length := by omega
    obtain ⟨r, pr, _, _, rd⟩ := w.read (R := Res) (List.getElem?_eq_getElem hk)
    obtain ⟨r0, pr0, _, rd0⟩ := w.read0 (R := Res) (List.getElem?_eq_getElem hk) (by omega)
    have okj := ok _ (List.getElem_mem hk)
    rw [List.drop_eq_getElem_cons hk, wantL]
    generalize jobs[k] = j at *
    obtain ⟨v0, rfl, _⟩ := pr0
    obtain ⟨v, rfl, a, c, rfl, sl, _⟩ := pr
    rw [F6_L1_eq, if_pos (decide_eq_true (by omega)), rd0 _ _ rfl]
    simp only [bind_some', asI_int, asB_bool, asStr_str, asP_ptr, asSl_sl, asAgg_1, asAgg_2, asAgg_3, asAgg_4, asTup_0, asTup_2, asTup_3, asTup_4, if_true', if_false', if_not_true', if_not_false', getD_0, getD_1, getD_2, getD_3]
    by_cases c1 : j.kind = 1
    · rw [if_pos (by simp [c1]), rd 1 (.int .i64 j.at_) _ (by omega) rfl]
      simp only [bind_some', asI_int, asB_bool, asStr_str, asP_ptr, asSl_sl, asAgg_1, asAgg_2, asAgg_3, asAgg_4, asTup_0, asTup_2, asTup_3, asTup_4, if_true', if_false', if_not_true', if_not_false', getD_0, getD_1, getD_2, getD_3]
      by_cases c2 : j.at_ = (i : Int)
      · rw [if_pos (by simp [c2]), rd 3 (.slice a j.data.length c) _ (by omega) rfl]
        simp only [bind_some', asI_int, asB_bool, asStr_str, asP_ptr, asSl_sl, asAgg_1, asAgg_2, asAgg_3, asAgg_4, asTup_0, asTup_2, asTup_3, asTup_4, if_true', if_false', if_not_true', if_not_false', getD_0, getD_1, getD_2, getD_3]
        rw [wsucc (by omega), if_pos ⟨c1, c2⟩]
        have hd := okj c1
        rw [hd] at sl ⊢
        exact ih lf (k + 1) _ j.data a c (by omega) (by omega) hd sl
      · rw [if_neg (by simp [c2]), wsucc (by omega), if_neg (fun q => c2 q.2)]
        exact ih lf (k + 1) _ cur ca cc (by omega) (by omega) hc sc
    · rw [if_neg (by simp [c1]), wsucc (by omega), if_neg (fun q => c1 q.1)]
      exact ih lf (k + 1) _ cur ca cc (by omega) (by omega) hc sc

theorem DriveLast_run (h : AHeap) (nx : Nat) (a : Option (Nat × Nat)) (cells : List (List AV)) (hB : cells.length * 32 ≤ 140737488351232) (ht : ∀ c ∈ cells, Ty h nx ActSh c) (sl : Sl h nx a cells.length ActSh.n cells.flatten) (x : Int) (_hx : (Lit.int .i64 x).wf = true) :
    ∃ f h' nx', callP Try.prog keepT f Y0 6 [.slice a cells.length false, .int .i64 x] h nx = some (.bool true, h', nx') := by
  obtain ⟨l, rfl⟩ := acts_of ht
  rw [List.length_map] at hB sl ⊢
  refine ⟨2001, ?_⟩
  rw [F6_eq]
  dsimp only
  have x1 : Ext h nx (h.put (nx + 2) (some ⟨[.int .i64 1, .int .i64 3, .int .i64 2], 1, true⟩)) (nx + 5) := ⟨by omega, fun i hi => put_ne (by omega)⟩
  have e1 := put_same h (nx + 2) (some ⟨[.int .i64 1, .int .i64 3, .int .i64 2], 1, true⟩)
  generalize h.put (nx + 2) (some ⟨[.int .i64 1, .int .i64 3, .int .i64 2], 1, true⟩) = h1 at *
  obtain ⟨a2, c2, h2, n2, A2, g1, g2, g3, g4⟩ := acts_spec (f := 2000) (by omega) Y0 (kb := nx + 2) (xa := a) false true (l := l) (ks := [1, 3, 2]) (m := 60) (sl.ext x1) e1 (by omega) (by decide) (by decide) (by omega) (by omega)
  change callP Try.prog keepT 2000 Y0 18 [.slice a l.length false, .int .i64 60, .slice (some (nx + 2, 0)) 3 true] h1 (nx + 5) = _ at g1
  rw [g1]
  simp only [bind_some', asI_int, asB_bool, asStr_str, asP_ptr, asSl_sl, asAgg_1, asAgg_2, asAgg_3, asAgg_4, asTup_0, asTup_2, asTup_3, asTup_4, if_true', if_false', if_not_true', if_not_false', getD_0, getD_1, getD_2, getD_3]
  have hlen : (actsL [1, 3, 2] 60 l).length ≤ 60 := by simp [actsL]; omega
  have ok := actsL_ok (ks := [1, 3, 2]) (by decide) (m := 60) (l := l) (P := fun k => k = 1 ∨ k = 3 ∨ k = 2) (by simp)
  have good : ∀ j ∈ actsL [1, 3, 2] 60 l, JobG j ∧ j.kind ≤ 3 := fun j hj => by
    obtain ⟨q1, q2, q3, q4⟩ := ok j hj
    rcases q1 with q | q | q
    · exact ⟨.inl ⟨q, q2, q3, q4 (.inl q)⟩, by omega⟩
    · exact ⟨.inr (.inr (.inl q)), by omega⟩
    · exact ⟨.inr (.inl ⟨q, q2, q3⟩), by omega⟩
  generalize actsL [1, 3, 2] 60 l = jobs at *
  have gS := st_gd fresh_gd (js := jobs) (fun j hj => (good j hj).1)
  have l1 := x1.1; have l2 := g2.1
  obtain ⟨a3, c3, h3, n3, k1, k2, k3⟩ := gets_spec (f := 2000) (by omega) Y0 c2 (g3.ext ⟨Nat.le_add_right n2 7, fun _ _ => rfl⟩).rows (by omega) (fun j hj => (good j hj).1.ok) rfl gS.1 (fun i hi => by rw [(getL_good gS hi).1]; exact ⟨rfl, (getL_good gS hi).2⟩)
  rw [k1]
  simp only [bind_some', asI_int, asB_bool, asStr_str, asP_ptr, asSl_sl, asAgg_1, asAgg_2, asAgg_3, asAgg_4, asTup_0, asTup_2, asTup_3, asTup_4, if_true', if_false', if_not_true', if_not_false', getD_0, getD_1, getD_2, getD_3]
  have l3 := k2.1
  rw [picked_spec (f := 2000) (by omega) Y0 x 8 (by omega) (by omega)]
  simp only [bind_some', asI_int, asB_bool, asStr_str, asP_ptr, asSl_sl, asAgg_1, asAgg_2, asAgg_3, asAgg_4, asTup_0, asTup_2, asTup_3, asTup_4, if_true', if_false', if_not_true', if_not_false', getD_0, getD_1, getD_2, getD_3]
  obtain ⟨P1, P2⟩ := pickL_in (x := x) (n := 8) (by omega)
  obtain ⟨i, hi⟩ : ∃ i : Nat, pickL x 8 = (i : Int) := ⟨(pickL x 8).toNat, by omega⟩
  have hi8 : i < 8 := by omega
  rw [hi, if_pos (by decide)]
  have x5 : Ext h3 n3 (h3.put (n3 + 5 + pickK x 8) (some ⟨madeA [.int .u8 0] (Int.toNat 128 * 1), 1, true⟩)) (n3 + 5 + pickK x 8 + 3) := ⟨by omega, fun i hi => put_ne (by omega)⟩
  have e5 := put_same h3 (n3 + 5 + pickK x 8) (some ⟨madeA [.int .u8 0] (Int.toNat 128 * 1), 1, true⟩)
  generalize h3.put (n3 + 5 + pickK x 8) (some ⟨madeA [.int .u8 0] (Int.toNat 128 * 1), 1, true⟩) = h5 at *
  have os : OwnSl h5 0 (n3 + 5 + pickK x 8 + 3) (some (n3 + 5 + pickK x 8, 0)) 128 1 (ints .u8 (noughts 128)) := ⟨by simp [noughts, ints], .inr ⟨_, rfl, by omega, by omega, by rw [e5]; simp [madeA, noughts, ints]⟩⟩
  have wj : Rows (JobR h5 (n3 + 5 + pickK x 8 + 3) fun _ => False) h5 (n3 + 5 + pickK x 8 + 3) (fun _ => False) a2 4 jobs := ((g3.ext ⟨by omega, fun i hi => (x5.2 i (by omega)).trans (k2.2 i (by omega))⟩ : Jobs h5 (n3 + 5 + pickK x 8 + 3) A2 a2 jobs)).rows
  obtain ⟨m, r⟩ := last_loop (f := 2000) (by omega) (Y := Y0) hi8 (xc := c2) (gc := c3) wj (by omega) (fun j hj q => by rcases (good j hj).1 with z | z | z | z | z <;> omega) (k3.ext x5) (by simp) (gi := (getL (stL (freshL 8) jobs) i).2) (by simp [List.getElem?_range hi8]) (by rw [(getL_good gS hi8).1]; exact (getL_good gS hi8).2) jobs.length 2000 0 (n3 + 5 + pickK x 8 + 3) (noughts 128) (some (n3 + 5 + pickK x 8, 0)) true (by omega) (by omega) (by simp [noughts]) os.sl
  refine ⟨h5, m, r.trans ?_⟩
  rw [List.drop_zero, decide_eq_true]
  rw [(getL_good gS hi8).1, want_V hi8 fresh_gd good, fresh_V]

end Go.Proofs.Ytbekpkapkaifiaa.T
