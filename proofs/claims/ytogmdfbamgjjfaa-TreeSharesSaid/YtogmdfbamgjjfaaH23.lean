/- Trees: whole. -/
import Derived.Test.YtogmdfbamgjjfaaH22
set_option linter.unusedVariables false
set_option linter.unusedSimpArgs false
namespace Go.Proofs.Ytogmdfbamgjjfaa.T
open Go Go.RowKit Go.Proofs

theorem one1_nn (l : Nat) (t : Tr) : ∀ y ∈ one1 l t, y.2 ≠ .nil := fun y hy => by
  cases t with
  | nil => simp [one1] at hy
  | nd a b c d => simp only [one1, List.mem_singleton] at hy; subst hy; exact fun z => by cases z
theorem kq_nn (l : Nat) (k : Nat → Tr) : ∀ j, ∀ y ∈ kq l k j, y.2 ≠ .nil
  | 0, y, hy => by simp [kq] at hy
  | j + 1, y, hy => by
    rw [kq, List.mem_append] at hy
    rcases hy with hy | hy
    · exact kq_nn l k j y hy
    · exact one1_nn _ _ y hy
theorem kqn_nn (x : Nat × Tr) : ∀ y ∈ kqn x, y.2 ≠ .nil := fun y hy => by
  obtain ⟨l, t⟩ := x
  cases l with
  | zero => simp [kqn] at hy
  | succ l => exact kq_nn _ _ _ y hy
theorem BF.len {i : Nat} {q q' : List (Nat × Tr)} {N N' : List NRec} (b : BF i q N q' N') : (∀ y ∈ q, y.2 ≠ .nil) → q'.length ≤ i + sumQ (q.drop i) := by
  induction b with
  | done q N => intro _; omega
  | @step i q q' N N' x h r ih =>
    intro w
    have hi : i < q.length := (List.getElem?_eq_some_iff.1 h).1
    have hx : q[i] = x := by have := List.getElem?_eq_getElem hi; rw [h] at this; exact (Option.some.inj this).symm
    have hdr : q.drop i = x :: q.drop (i + 1) := by rw [List.drop_eq_getElem_cons hi, hx]
    have e := ih (fun y hy => by
      rcases List.mem_append.1 hy with hy | hy
      · exact w y hy
      · exact kqn_nn x y hy)
    have e1 := sumQ_kqn (w x (List.mem_of_getElem? h))
    rw [List.drop_append_of_le_length (by omega), sumQ_app] at e
    rw [hdr, sumQ_cons]; omega
theorem BF.len_le {L : Nat} {t : Tr} {q : List (Nat × Tr)} {N : List NRec} (b : BF 0 (one1 L t) [] q N) (hL : L ≤ 3) : q.length ≤ 625 := by
  have := b.len (one1_nn L t)
  rw [List.drop_zero, sumQ_one] at this
  have h1 := cntT_le L t
  have h2 : 5 ^ (L + 1) ≤ 5 ^ 4 := Nat.pow_le_pow_right (by omega) (by omega)
  omega

def wholeL (L : Nat) (t : Tr) : List Int := match t with
  | .nil => []
  | .nd a b c d => (List.range (room L)).map (cont L (.nd a b c d))
theorem rowB_ints (n : Nat) (o : Nat → Int) : rowB n o = ints .u8 ((List.range n).map o) := by simp [rowB, ints, List.map_map, Function.comp_def]

theorem one_loop {f : Nat} {Y : YldF} {g sb M : Nat} {a : Option (Nat × Nat)} {n : Nat} {c sc : Bool} {s : Nat → Nat} (hM : M ≤ 10000) (hs : ∀ y, 1 ≤ y → y < M → s y = 1) {h : AHeap} (es : h sb = some ⟨rowI M s, 1, true⟩) (d : Nat) :
    ∀ (lf y nx : Nat), y + d = M → 1 ≤ y → d < lf → ∃ m, nx ≤ m ∧ F12_L2 (callP Try.prog keepT f) Y g lf a n c (some (sb, 0)) M sc (y : Int) h nx = some (.tuple [.slice a n c, .bool true], h, m) := by
  induction d with
  | zero =>
    intro lf y nx e h1 hl
    obtain ⟨lf, rfl⟩ : ∃ m, lf = m + 1 := ⟨lf - 1, by omega⟩
    rw [F12_L2_eq, if_neg (by rw [decide_eq_true_eq]; omega)]
    exact ⟨_, Nat.le_add_right _ 7, rfl⟩
  | succ d ih =>
    intro lf y nx e h1 hl
    obtain ⟨lf, rfl⟩ : ∃ m, lf = m + 1 := ⟨lf - 1, by omega⟩
    rw [F12_L2_eq, if_pos (decide_eq_true (by omega))]
    simp only [mst_]
    rw [if_pos ⟨by omega, by omega⟩, Int.toNat_natCast, Nat.mul_one, Nat.zero_add, ld_at es (v := .int .i64 ((1 : Nat) : Int)) (by rw [rowI_at _ (by omega), hs y h1 (by omega)])]
    simp only [mst_]
    rw [if_neg (by decide), wsucc (i := y) (by omega)]
    obtain ⟨m, l, q⟩ := ih lf (y + 1) (nx + 12) (by omega) (by omega) (by omega)
    exact ⟨m, by omega, q⟩

theorem whole_spec {f : Nat} (hf : 2000 ≤ f) (Y : YldF) {h0 : AHeap} {n0 : Nat} {a : Option (Nat × Nat)} (ac : Bool) {L b : Nat} {t : Tr} (hL : L ≤ 3) (gd : Gd (L + 1) b t) {q : List (Nat × Tr)} {N : List NRec} (bf : BF 0 (one1 L t) [] q N) (rows : Rows (NodR h0 n0 fun _ => False) h0 n0 (fun _ => False) a 5 N) :
    ∃ a2 c2 h' nx', callP Try.prog keepT f Y 12 [.slice a N.length ac] h0 n0 = some (.tuple [.slice a2 (wholeL L t).length c2, .bool true], h', nx') ∧ Ext h0 n0 h' nx' ∧ Sl h' nx' a2 (wholeL L t).length 1 (ints .u8 (wholeL L t)) := by
  obtain ⟨f, rfl⟩ : ∃ m, f = m + 1 := ⟨f - 1, by omega⟩
  have hlen := bf.len_le hL
  rw [F12_eq]
  cases t with
  | nil =>
    obtain ⟨rfl, rfl⟩ := bf.empty rfl
    rw [if_pos (by decide)]
    exact ⟨none, false, _, _, rfl, ⟨by omega, fun _ _ => rfl⟩, rfl, fun j hj => by simp [wholeL] at hj⟩
  | nd id bi k ds =>
    obtain ⟨w, hq0⟩ := BF.root (x := (L, .nd id bi k ds)) bf
    have hNl := w.ln
    have hq1 : 0 < q.length := (List.getElem?_eq_some_iff.1 hq0).1
    have hrec := (w.rc 0 _ hq1 hq0).1
    have hlv : (recOf (mq q 0) (L, .nd id bi k ds)).lv = L := by cases L <;> rfl
    obtain ⟨r, ⟨kv, dv, rfl, _, _⟩, _, _, rd⟩ := rows.read (R := Res) hrec
    have rd2 : ∀ (v : AV) (K : AV → Option Res), [.int .i64 ((recOf (mq q 0) (L, .nd id bi k ds)).id : Int), .int .i64 ((recOf (mq q 0) (L, .nd id bi k ds)).birth : Int), .int .i64 ((recOf (mq q 0) (L, .nd id bi k ds)).lv : Int), kv, dv][2]? = some v → (a.bind fun p => if 0 ≤ (0 : Int) ∧ 0 < ((N.length : Nat) : Int) then (ldA h0 p.1 ((p.2 + Int.toNat 0 * 5) + 2)).bind K else none) = K v := fun v K hv => rd 2 v K (by omega) hv
    have hrL := room3_le hL
    have hrp := room_pos L
    rw [if_neg (by rw [beq_iff_eq]; omega), rd2 (.int .i64 (L : Int)) _ (by rw [hlv]; rfl)]
    simp only [mst_]
    rw [if_neg (by rw [decide_eq_true_eq]; omega), rd2 (.int .i64 (L : Int)) _ (by rw [hlv]; rfl)]
    simp only [mst_]
    rw [if_neg (by rw [decide_eq_true_eq]; omega), F12_J1_eq, rd2 (.int .i64 (L : Int)) _ (by rw [hlv]; rfl)]
    simp only [mst_]
    rw [Room_spec (by omega) Y (by omega)]
    simp only [mst_]
    rw [if_pos (by simp; omega), if_pos (by simp; omega), Int.toNat_natCast, Int.toNat_natCast]
    have hm1 : madeA [.int .u8 0] (room L * 1) = rowB (room L) (fun _ => 0) := by simp only [madeA, rowB, Nat.mul_one, List.map_const', List.length_range, List.getD_cons_zero]
    have hm2 : madeA [.int .i64 0] (N.length * 1) = rowI N.length (fun _ => 0) := by simp only [madeA, rowI, Nat.mul_one, List.map_const', List.length_range, List.getD_cons_zero]; simp
    rw [hm1, hm2]
    generalize hh2 : (h0.put (n0 + 17 + 5) _).put (n0 + 17 + 7 + 5 + 2) _ = h2
    have x2 : Ext h0 n0 h2 (n0 + 17 + 7 + 5 + 9) := ⟨by omega, fun i hi => by rw [← hh2, put_ne (by omega), put_ne (by omega)]⟩
    have e1 : h2 (n0 + 17 + 5) = some ⟨rowB (room L) (fun _ => 0), 1, true⟩ := by rw [← hh2, put_ne (by omega), put_same]
    have e2 : h2 (n0 + 17 + 7 + 5 + 2) = some ⟨rowI N.length (fun _ => 0), 1, true⟩ := by rw [← hh2, put_same]
    have sf : SF q N h0 n0 a (n0 + 17 + 5) (n0 + 17 + 7 + 5 + 2) (room L) := ⟨w, rows, by omega, by omega, by omega, by omega, by omega⟩
    obtain ⟨h3, n3, g1, g2, g3, g4, g5⟩ := sp_all (Y := Y) (ac := ac) (oc := ((room L : Int) == (room L : Int))) (sc := (((N.length : Nat) : Int) == ((N.length : Nat) : Int))) sf L f hL (by omega) 0 0 b _ (fun _ => 0) (fun _ => 0) h2 (n0 + 17 + 7 + 5 + 9) hq0 gd (fun z => by cases z) (by omega) (fun _ _ _ => rfl) (fun y hy => by
      by_cases h1 : 1 ≤ y
      · rw [cn_one w hq0 (y + 1) y (by omega) h1 (by omega)]; omega
      · obtain rfl : y = 0 := by omega
        rw [cn_zero]; omega) x2 (by omega) (by omega) e1 e2
    have g1' : callP Try.prog keepT f Y 19 [.slice a N.length ac, .int .i64 0, .int .i64 0, .slice (some (n0 + 17 + 5, 0)) (room L) ((room L : Int) == (room L : Int)), .slice (some (n0 + 17 + 7 + 5 + 2, 0)) N.length (((N.length : Nat) : Int) == ((N.length : Nat) : Int))] h2 (n0 + 17 + 7 + 5 + 9) = _ := g1
    rw [g1']
    simp only [mst_]
    obtain ⟨m, hm, q1⟩ := one_loop (f := f) (Y := Y) (g := f) (sb := n0 + 17 + 7 + 5 + 2) (M := N.length) (a := some (n0 + 17 + 5, 0)) (n := room L) (c := ((room L : Int) == (room L : Int))) (sc := (((N.length : Nat) : Int) == ((N.length : Nat) : Int))) (s := fun y => 0 + cn q L 0 y) (by omega) (fun y h1 h2 => by simp only [Nat.zero_add]; exact cn_one w hq0 (y + 1) y (by omega) h1 (by omega)) g5 (N.length - 1) f 1 (n3 + 1) (by omega) (by omega) (by omega)
    have q1' : F12_L2 (callP Try.prog keepT f) Y f f (some (n0 + 17 + 5, 0)) (room L) ((room L : Int) == (room L : Int)) (some (n0 + 17 + 7 + 5 + 2, 0)) N.length (((N.length : Nat) : Int) == ((N.length : Nat) : Int)) 1 h3 (n3 + 1) = _ := q1
    have hwl : (wholeL L (.nd id bi k ds)).length = room L := by simp [wholeL]
    rw [q1', hwl]
    refine ⟨_, _, _, _, rfl, ⟨by omega, fun i hi => by rw [g3 i (by omega) (by omega) (by omega), x2.2 i hi]⟩, by simp [wholeL, ints], fun j hj => ⟨_, _, rfl, by simp only; omega, g4, rfl, by simp only [rowB_len]; omega, fun u hu => ?_⟩⟩
    rw [rowB_congr (b := cont L (.nd id bi k ds)) (fun x hx => by rw [if_pos ⟨by omega, by omega⟩, Nat.sub_zero]), rowB_ints]
    simp only [Nat.zero_add]; rfl

end Go.Proofs.Ytogmdfbamgjjfaa.T
