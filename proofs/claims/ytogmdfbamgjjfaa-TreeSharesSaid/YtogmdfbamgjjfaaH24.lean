/- Trees: TreeWhole. -/
import Derived.Test.YtogmdfbamgjjfaaH23
set_option linter.unusedVariables false
set_option linter.unusedSimpArgs false
namespace Go.Proofs.Ytogmdfbamgjjfaa.T
open Go Go.RowKit Go.Proofs

theorem wholeL_nil_iff (L : Nat) (t : Tr) : (wholeL L t).length = 0 ↔ t = .nil := by
  cases t with
  | nil => simp [wholeL]
  | nd a b c d => have := room_pos L; simp [wholeL]; omega
theorem wholeL_len {L : Nat} {t : Tr} (h : t ≠ .nil) : (wholeL L t).length = room L := by
  cases t with
  | nil => exact absurd rfl h
  | nd a b c d => simp [wholeL]
theorem wholeL_get {L : Nat} {t : Tr} {i : Nat} (h : i < (wholeL L t).length) : (wholeL L t)[i] = cont L t i := by
  cases t with
  | nil => simp [wholeL] at h
  | nd a b c d => simp [wholeL]
theorem bytesJ_at {jobs : List Stp} {v i : Nat} (h : i < (bytesJ jobs v).length) : (bytesJ jobs v)[i] = cont (lev (verV jobs v).s) (verV jobs v).t i := by
  have e : (bytesJ jobs v)[i]? = some (cont (lev (verV jobs v).s) (verV jobs v).t i) := by
    rw [bytesJ_len] at h
    unfold bytesJ bytesV; simp [h]
  rw [List.getElem?_eq_getElem h] at e
  exact Option.some.inj e

theorem BF.nil_iff {L : Nat} {t : Tr} {q : List (Nat × Tr)} {N : List NRec} (b : BF 0 (one1 L t) [] q N) : N.length = 0 ↔ t = .nil := by
  cases t with
  | nil => obtain ⟨_, rfl⟩ := b.empty rfl; simp
  | nd a1 b1 c d =>
    obtain ⟨w, h⟩ := BF.root (x := (L, .nd a1 b1 c d)) b
    have h1 := w.ln
    have h2 := (List.getElem?_eq_some_iff.1 h).1
    simp; intro e; rw [e] at h1; simp at h1; omega

/-- What the loop compares. -/
theorem cmp_loop {f : Nat} {Y : YldF} {g : Nat} {wa ga na : Option (Nat × Nat)} {wc gc nc : Bool} {u w : List Int} {M : Nat} {h : AHeap} {n0 : Nat} {P : Option Res → Prop} (su : Sl h n0 wa u.length 1 (ints .u8 u)) (sw : Sl h n0 ga w.length 1 (ints .u8 w)) (hu : u.length ≤ 10000) (hw : w.length ≤ 10000)
    (eq : ∀ i (h1 : i < w.length), (∀ h2 : i < u.length, w[i] = u[i]) ∧ (u.length ≤ i → w[i] = 0)) (lw : u.length ≤ w.length)
    (next : ∀ (lf nx : Nat), P (F5_L2 (callP Try.prog keepT f) Y g (lf + 1) wa u.length wc na M nc ga w.length gc ((w.length : Nat) : Int) h nx)) (d : Nat) :
    ∀ (lf k nx : Nat), k + d = w.length → d < lf → P (F5_L2 (callP Try.prog keepT f) Y g lf wa u.length wc na M nc ga w.length gc (k : Int) h nx) := by
  induction d with
  | zero =>
    intro lf k nx e hl
    obtain ⟨lf, rfl⟩ : ∃ m, lf = m + 1 := ⟨lf - 1, by omega⟩
    obtain rfl : k = w.length := by omega
    exact next _ _
  | succ d ih =>
    intro lf k nx e hl
    obtain ⟨lf, rfl⟩ : ∃ m, lf = m + 1 := ⟨lf - 1, by omega⟩
    have hk : k < w.length := by omega
    obtain ⟨q1, q2⟩ := eq k hk
    have rw_ := fun (K : AV → Option Res) => sw.read0 (v := .int .u8 w[k]) (i := k) (by omega) (by omega) (by omega) (by simp [ints, hk]) K
    rw [F5_L2_eq, if_pos (decide_eq_true (by omega))]
    by_cases c : k < u.length
    · rw [if_pos (decide_eq_true (by omega)), rw_]
      simp only [mst_]
      rw [su.read0 (v := .int .u8 u[k]) (i := k) (by omega) (by omega) (by omega) (by simp [ints, c])]
      simp only [mst_]
      rw [if_neg (by rw [q1 c]; simp), if_neg (by rw [decide_eq_true_eq]; omega), wsucc (by omega)]
      exact ih lf (k + 1) _ (by omega) (by omega)
    · rw [if_neg (by rw [decide_eq_true_eq]; omega), if_pos (decide_eq_true (by omega)), rw_]
      simp only [mst_]
      rw [if_neg (by rw [q2 (by omega)]; simp), wsucc (by omega)]
      exact ih lf (k + 1) _ (by omega) (by omega)

/-- One byte that is written makes one node. -/
theorem one_node {f : Nat} (hf : 1010 ≤ f) (Y : YldF) {g : Nat} (h : AHeap) (nx : Nat) : ∃ h' nx', F5_J3 (callP Try.prog keepT f) Y g h nx = some (.bool true, h', nx') := by
  rw [F5_J3_eq]
  dsimp only
  generalize hh2 : (h.put nx _).put (nx + 2) _ = h2
  have e0 : h2 nx = some ⟨ints .u8 [1], 1, true⟩ := by rw [← hh2, put_ne (by omega), put_same]; rfl
  have e1 : h2 (nx + 2) = some ⟨[.int .i64 1, .int .i64 0, .int .i64 0, .int .i64 0, .slice (some (nx, 0)) 1 true], 5, true⟩ := by rw [← hh2, put_same]
  obtain ⟨st, hst⟩ : ∃ st : Stp, st = ⟨1, 0, 0, 0, [1]⟩ := ⟨_, rfl⟩
  have rows : Rows (StepR h2 (nx + 9) fun _ => False) h2 (nx + 9) (fun _ => False) (some (nx + 2, 0)) 5 [st] := by
    refine ⟨[[.int .i64 1, .int .i64 0, .int .i64 0, .int .i64 0, .slice (some (nx, 0)) 1 true]], All2.one ⟨_, by rw [hst]; rfl, some (nx, 0), true, by rw [hst]; rfl, ?_, fun _ _ _ q => q⟩, by simp, ⟨by simp, fun j hj => ⟨(nx + 2, 0), _, rfl, by simp only; omega, e1, rfl, by simp, fun q hq => by simp⟩⟩, fun _ _ _ q => q⟩
    rw [hst]
    exact ⟨by simp [ints], fun j hj => ⟨(nx, 0), _, rfl, by simp only; omega, e0, rfl, by simp [ints], fun q hq => by simp⟩⟩
  have ok : OkAll fo0 [st] := ⟨⟨by rw [hst]; simp [fo0], .inl (by rw [hst]; exact ⟨rfl, by simp, by simp⟩)⟩, trivial⟩
  have mk : MkAll [st] := fun s hs => by simp at hs; subst hs; rw [hst]; exact .inl rfl
  obtain ⟨vs, hvs, hrun⟩ := runF_mk [st] fo0 mk
  have hv : 1 < (runF fo0 [st]).vs.length := by rw [hrun, List.length_append, hvs]; simp [fo0]
  obtain ⟨a, c, h', nx', q, N, g1, g2, g3, g4⟩ := Nodes_spec (f := f) hf Y true rows ok (by simp) (v := 1) hv
  have g1' : callP Try.prog keepT f Y 11 [.slice (some (nx + 2, 0)) 1 true, .int .i64 1] h2 (nx + 9) = _ := g1
  rw [g1']
  simp only [mst_]
  have vok := verV_ok ok hv
  have hs : (verV [st] 1).s = 1 := by
    have := verV_write (jobs := []) (st := st) (by rw [hst])
    have e : verV ([] ++ [st]) 1 = _ := this
    rw [List.nil_append] at e
    rw [e, hst]
    simp [verV, runF, fo0, noV]
  have hl : lev (verV [st] 1).s = 0 := by rw [hs]; rfl
  have hN : N.length = 1 := by
    have hnn : N.length ≠ 0 := fun e => by
      have := vok.nl.2 (g4.nil_iff.1 e); omega
    have hle := g4.len (one1_nn _ _)
    rw [List.drop_zero, sumQ_one, hl] at hle
    have hc : cntT 0 (verV [st] 1).t ≤ 1 := by cases (verV [st] 1).t <;> simp [cntT]
    have : N.length = q.length := by
      cases ht : (verV [st] 1).t with
      | nil => rw [ht] at g4; obtain ⟨rfl, rfl⟩ := g4.empty rfl; rfl
      | nd a b k d => rw [ht] at g4; exact (BF.root (x := (_, .nd a b k d)) g4).1.ln
    omega
  rw [if_pos (by decide), hN]
  exact ⟨_, _, rfl⟩

theorem TreeWhole_run (h : AHeap) (nx : Nat) (a0 : Option (Nat × Nat)) (c0 : List (List AV)) (g0 : c0.length * 48 ≤ 140737488351232) (t0 : ∀ c ∈ c0, Ty h nx EdtSh c) (sl0 : Sl h nx a0 c0.length EdtSh.n c0.flatten) (x1 : Int) (_ : (Lit.int .i64 x1).wf = true) :
    ∃ f h' nx', callP Try.prog keepT f Y0 5 [.slice a0 c0.length false, .int .i64 x1] h nx = some (.bool true, h', nx') := by
  obtain ⟨el, hel, ew⟩ := edts_rows t0 sl0
  rw [← hel] at g0 ⊢
  clear hel t0 sl0
  refine ⟨20001, ?_⟩
  rw [F5_eq]
  obtain ⟨sa, sc, h1, n1, q1, q2, q3⟩ := steps_spec (f := 20000) (by omega) Y0 false (h0 := h) (n0 := nx + 4) (ew.same ⟨by omega, fun _ _ => rfl⟩ (fun _ _ r => r.ext ⟨by omega, fun _ _ => rfl⟩)) (m := 30) (by omega)
  have q1' : callP Try.prog keepT 20000 Y0 7 [.slice a0 el.length false, .int .i64 30] h (nx + 4) = _ := q1
  rw [q1']
  simp only [mst_]
  have hl20 : (stepsL 0 30 el).length ≤ 30 := by rw [stepsL_len]; omega
  have okj : OkAll fo0 (stepsL 0 30 el) := stepsL_ok 0 30 el fo0 (by simp [fo0])
  have mkj := stepsL_mk 0 30 el
  generalize stepsL 0 30 el = jobs at *
  obtain ⟨vs, hvs, hrun⟩ := runF_mk jobs fo0 mkj
  have hlen : (runF fo0 jobs).vs.length = jobs.length + 1 := by rw [hrun, List.length_append, hvs]; simp [fo0]; omega
  rw [wsucc (by omega)]
  have hv := pickN_lt (x := x1) (show 0 < jobs.length + 1 by omega)
  rw [picked_spec (f := 20000) (by omega) Y0 x1 ((jobs.length + 1 : Nat) : Int) (by omega) (by omega), pickN_eq (n := jobs.length + 1) (by omega)]
  simp only [mst_]
  generalize pickN x1 (jobs.length + 1) = v at *
  have rw1 : ∀ m, n1 ≤ m → Rows (StepR h1 m fun _ => False) h1 m (fun _ => False) sa 5 jobs := fun m hm => q3.same ⟨hm, fun _ _ => rfl⟩ (fun _ _ r => r.ext ⟨hm, fun _ _ => rfl⟩)
  generalize hc2 : n1 + 6 + pickK x1 ((jobs.length + 1 : Nat) : Int) + 8 = c2
  obtain ⟨ua, uc, h4, n4, u1, u2, u3⟩ := bytesOf_spec (f := 20000) (by omega) Y0 sc (rw1 c2 (by omega)) okj (by omega) (v := v) (by omega)
  rw [u1]
  simp only [mst_]
  have rw4 : Rows (StepR h4 n4 fun _ => False) h4 n4 (fun _ => False) sa 5 jobs := (rw1 c2 (by omega)).same u2 (fun _ _ r => r.ext u2)
  obtain ⟨rows, rd, e5, r1, r2, r3, r4, r5, r6, r7, r8⟩ := copy_rows rw4 (bytes := 56) (id := n4 + 1) (by omega) (by omega) (by omega)
  rw [r1]
  simp only [mst_]
  rw [r2]
  simp only [mst_]
  rw [r3]
  have x5 : Ext h4 n4 (h4.puts e5.sets) (n4 + 9) := r4.le (by omega)
  have rw5 : Rows (StepR (h4.puts e5.sets) (n4 + 9) fun _ => False) (h4.puts e5.sets) (n4 + 9) (fun _ => False) e5.a 5 jobs := (r5.rows (A := fun _ => False) (fun _ _ q => q)).same ⟨by omega, fun _ _ => rfl⟩ (fun _ _ r => r.ext x5)
  generalize h4.puts e5.sets = h5 at *
  obtain ⟨na, nc, h6, n6, q, N, w1, w2, w3, w4⟩ := Nodes_spec (f := 20000) (by omega) Y0 e5.c rw5 okj (by omega) (v := v) (by omega)
  rw [w1]
  simp only [mst_]
  have vok := verV_ok okj (v := v) (by omega)
  have hL := lev_le (verV jobs v).s
  have x7 : Ext h6 n6 h6 (n6 + 7) := ⟨by omega, fun _ _ => rfl⟩
  obtain ⟨ga, gc, h8, n8, y1, y2, y3⟩ := whole_spec (f := 20000) (by omega) Y0 nc hL vok.gd w4 (w3.same x7 (fun _ _ r => r.go (x7.fr fun _ => False) (fun _ _ q => q) (fun _ _ q => q)))
  rw [y1]
  simp only [mst_]
  have hs := vok.hs
  have hrm := lev_room hs
  have hr3 := room3_le hL
  have hbl := bytesJ_len jobs v
  have hN0 := w4.nil_iff
  have hw0 := wholeL_nil_iff (lev (verV jobs v).s) (verV jobs v).t
  have hnl := vok.nl
  have hlw : (bytesJ jobs v).length ≤ (wholeL (lev (verV jobs v).s) (verV jobs v).t).length := by
    by_cases c : (verV jobs v).t = .nil
    · have := hnl.2 c; omega
    · rw [wholeL_len c]; omega
  have hwl : (wholeL (lev (verV jobs v).s) (verV jobs v).t).length ≤ 4096 := by
    by_cases c : (verV jobs v).t = .nil
    · rw [hw0.2 c]; omega
    · rw [wholeL_len c]; exact hr3
  have hempty : ((((N.length : Nat) : Int) == 0) == ((((bytesJ jobs v).length : Nat) : Int) == 0)) = true := by
    rw [beq_iff_eq, Bool.eq_iff_iff, beq_iff_eq, beq_iff_eq]
    constructor
    · intro e; have := hnl.2 (hN0.1 (by omega)); omega
    · intro e; have := hN0.2 (hnl.1 (by omega)); omega
  rw [if_neg (by decide), hempty]
  simp only [mst_]
  rw [if_neg (by rw [decide_eq_true_eq]; omega), F5_J1_eq]
  have x68 : Ext h6 n6 h8 n8 := ⟨by have := y2.1; omega, fun i hi => y2.2 i (by omega)⟩
  have u8 : Sl h8 n8 ua (bytesJ jobs v).length 1 (ints .u8 (bytesJ jobs v)) := u3.ext ⟨by have := x5.1; have := w2.1; have := x68.1; omega, fun i hi => by have := x5.1; have := w2.1; rw [x68.2 i (by omega), w2.2 i (by omega), x5.2 i hi]⟩
  have w8 : Rows (NodR h6 n6 fun _ => False) h8 n8 (fun _ => False) na 5 N := w3.same x68 (fun _ _ r => r)
  refine cmp_loop (P := fun r => ∃ h' nx', r = some (.bool true, h', nx')) (f := 20000) (Y := Y0) (g := 20000) (wa := ua) (ga := ga) (na := na) (wc := uc) (gc := gc) (nc := nc) (M := N.length) u8 y3 (by omega) (by omega) (fun i h1 => ?_) hlw (fun lf nx => ?_) _ 20000 0 (n8 + 26 + 1) (Nat.zero_add _) (by omega)
  · have hnn : (verV jobs v).t ≠ .nil := fun e => by rw [hw0.2 e] at h1; omega
    rw [wholeL_get h1]
    refine ⟨fun h2 => by rw [bytesJ_at h2], fun h2 => vok.z i (by omega) (by rw [wholeL_len hnn] at h1; exact h1)⟩
  · rw [F5_L2_eq, if_neg (by rw [decide_eq_true_eq]; omega)]
    by_cases c : N.length = 0
    · rw [if_neg (by rw [decide_eq_true_eq]; omega)]
      exact one_node (by omega) Y0 _ _
    · rw [if_pos (decide_eq_true (by omega))]
      have hnn : (verV jobs v).t ≠ .nil := fun e => c (hN0.2 e)
      cases ht : (verV jobs v).t with
      | nil => exact absurd ht hnn
      | nd a b k d =>
        rw [ht] at w4
        obtain ⟨wi, hq0⟩ := BF.root (x := (lev (verV jobs v).s, .nd a b k d)) w4
        have hq1 : 0 < q.length := (List.getElem?_eq_some_iff.1 hq0).1
        have hrec := (wi.rc 0 _ hq1 hq0).1
        have hlv : (recOf (mq q 0) (lev (verV jobs v).s, .nd a b k d)).lv = lev (verV jobs v).s := by cases lev (verV jobs v).s <;> rfl
        obtain ⟨r, ⟨kv, dv, rfl, _, _⟩, _, _, rd⟩ := w8.read (R := Res) hrec
        have rd2 : ∀ (K : AV → Option Res), (na.bind fun p => if 0 ≤ (0 : Int) ∧ 0 < ((N.length : Nat) : Int) then (ldA h8 p.1 ((p.2 + Int.toNat 0 * 5) + 2)).bind K else none) = K (.int .i64 (lev (verV jobs v).s : Int)) := fun K => rd 2 _ K (by omega) (by rw [hlv]; rfl)
        rw [rd2]
        simp only [mst_]
        by_cases c2 : lev (verV jobs v).s = 0
        · rw [if_neg (by rw [decide_eq_true_eq]; omega)]
          exact one_node (by omega) Y0 _ _
        · rw [if_pos (decide_eq_true (by omega)), rd2]
          simp only [mst_]
          have hlow := lev_low (s := (verV jobs v).s) (l := lev (verV jobs v).s - 1) (by omega)
          rw [show wrapA .i64 ((lev (verV jobs v).s : Int) - 1) = ((lev (verV jobs v).s - 1 : Nat) : Int) by rw [wA (by omega) (by omega)]; omega, Room_spec (by omega) Y0 (by omega)]
          simp only [mst_]
          rw [if_neg (by rw [decide_eq_true_eq]; omega)]
          exact one_node (by omega) Y0 _ _

end Go.Proofs.Ytogmdfbamgjjfaa.T
