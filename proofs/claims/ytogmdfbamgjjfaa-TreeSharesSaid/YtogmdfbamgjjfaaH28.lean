/- Trees: TreeShares. -/
import Derived.Test.YtogmdfbamgjjfaaH27
set_option linter.unusedVariables false
set_option linter.unusedSimpArgs false
namespace Go.Proofs.Ytogmdfbamgjjfaa.T
open Go Go.RowKit Go.Proofs

/-- What stays fixed: the write, what was there, what is. -/
structure HF (hS : AHeap) (nS jb off V : Nat) (ds : List Int) (xa na : Option (Nat × Nat)) (had now : List Pl) : Prop where
  rh : Rows (PlR hS nS) hS nS (fun _ => False) xa 5 had
  rn : Rows (PlR hS nS) hS nS (fun _ => False) na 5 now
  jl : jb < nS
  ej : ∃ (v : Int) (da : Option (Nat × Nat)) (dc : Bool), hS jb = some ⟨[.int .i64 1, .int .i64 v, .int .i64 (off : Int), .int .i64 0, .slice da ds.length dc], 5, true⟩
  ho : off ≤ 10000
  hd : ds.length ≤ 10000
  hh : had.length ≤ 10000
  hn : now.length ≤ 10000
  dd : ∀ p : Pl, (p ∈ had ∨ p ∈ now) → p.data.length ≤ 64 ∧ p.lv ≤ 3 ∧ p.base ≤ 10000 ∧ p.birth ≤ 10000

theorem find_loop {P : Option Res → Prop} {f : Nat} (hf : 10010 ≤ f) {Y : YldF} {g lf3 : Nat} {hS : AHeap} {nS jb off V : Nat} {ds : List Int} {xa na aa : Option (Nat × Nat)} {an : Nat} {ac xc nc : Bool} {top : Int} {had now : List Pl} (w : HF hS nS jb off V ds xa na had now) {i : Nat} {nb : Nat} {p : Pl} (hi : i ≤ 10000)
    (next : ∀ h nx, Ext hS nS h nx → P (F4_L3 (callP Try.prog keepT f) Y g lf3 (some (jb, 0)) aa an ac xa had.length xc top na now.length nc ((i + 1 : Nat) : Int) h nx)) (hpl : p.data.length ≤ 64)
    (d : Nat) : ∀ (lf k : Nat) (fl : Bool) (dv : AV) (h : AHeap) (nx : Nat), k + d = had.length → d < lf → (fl = true ∨ p ∈ had.drop k) → Ext hS nS h nx → nb < nx → h nb = some ⟨[.int .i64 (p.lv : Int), .int .i64 (p.base : Int), .int .i64 (p.id : Int), .int .i64 (p.birth : Int), dv], 5, true⟩ → Byt .u8 hS nS (fun _ => False) dv p.data →
      P (F4_L6 (callP Try.prog keepT f) Y g lf3 lf (some (jb, 0)) aa an ac xa had.length xc top na now.length nc (i : Int) (some (nb, 0)) fl (k : Int) h nx) := by
  have hh := w.hh
  induction d with
  | zero =>
    intro lf k fl dv h nx e hl hp x ln en by_
    obtain ⟨lf, rfl⟩ : ∃ m, lf = m + 1 := ⟨lf - 1, by omega⟩
    obtain rfl : k = had.length := by omega
    rw [List.drop_length] at hp
    have hfl : fl = true := by rcases hp with q | q; exact q; cases q
    rw [F4_L6_eq, if_neg (by rw [decide_eq_true_eq]; omega), hfl]
    simp only [mst_]
    rw [wsucc (i := i) (by omega)]
    exact next _ _ ⟨by have := x.1; omega, x.2⟩
  | succ d ih =>
    intro lf k fl dv h nx e hl hp x ln en by_
    obtain ⟨lf, rfl⟩ : ∃ m, lf = m + 1 := ⟨lf - 1, by omega⟩
    have hk : k < had.length := by omega
    have lx := x.1
    rw [F4_L6_eq, if_pos (decide_eq_true (by omega))]
    cases fl with
    | true =>
      rw [if_true', wsucc (i := k) (by omega)]
      exact ih lf (k + 1) true dv h _ (by omega) (by omega) (.inl rfl) ⟨by omega, x.2⟩ (by omega) en by_
    | false =>
      rw [if_false']
      have hp' : p ∈ had.drop k := by rcases hp with q | q; cases q; exact q
      rw [List.drop_eq_getElem_cons hk, List.mem_cons] at hp'
      have no : had[k] ≠ p → p ∈ had.drop (k + 1) := fun q => by
        rcases hp' with e | e
        · exact absurd e.symm q
        · exact e
      have rowsx := w.rh.go (x.fr fun _ => False) (fun _ _ q => q) (fun _ _ q => q) (fun _ _ r => r)
      have hgk : had[k]? = some had[k] := List.getElem?_eq_getElem hk
      obtain ⟨r0, ⟨ev0, er0, _⟩, _, rd0⟩ := rowsx.read0 (R := Res) hgk (by omega)
      obtain ⟨r, ⟨ev, rfl, eb⟩, _, _, rd⟩ := rowsx.read (R := Res) hgk
      have hdl := (w.dd had[k] (.inl (List.getElem_mem hk))).1
      generalize had[k] = z at *
      have fail : z ≠ p → P (F4_L6 (callP Try.prog keepT f) Y g lf3 lf (some (jb, 0)) aa an ac xa had.length xc top na now.length nc (i : Int) (some (nb, 0)) false (wrapA .i64 ((k : Int) + 1)) h (nx + 59)) := fun q => by
        rw [wsucc (i := k) (by omega)]
        exact ih lf (k + 1) false dv h _ (by omega) (by omega) (.inr (no q)) ⟨by omega, x.2⟩ (by omega) en by_
      rw [rd0 (.int .i64 (z.lv : Int)) _ (by rw [er0]; rfl)]
      simp only [mst_]
      rw [ld_at en (v := .int .i64 (p.lv : Int)) rfl]
      simp only [mst_]
      by_cases c1 : z.lv = p.lv
      · rw [if_pos (by rw [beq_iff_eq]; omega), rd 1 (.int .i64 (z.base : Int)) _ (by omega) rfl]
        simp only [mst_]
        rw [Nat.zero_add, ld_at en (v := .int .i64 (p.base : Int)) rfl]
        simp only [mst_]
        by_cases c2 : z.base = p.base
        · rw [if_pos (by rw [beq_iff_eq]; omega), rd 2 (.int .i64 (z.id : Int)) _ (by omega) rfl]
          simp only [mst_]
          rw [Nat.zero_add, ld_at en (v := .int .i64 (p.id : Int)) rfl]
          simp only [mst_]
          by_cases c3 : z.id = p.id
          · rw [if_pos (by rw [beq_iff_eq]; omega), rd 3 (.int .i64 (z.birth : Int)) _ (by omega) rfl]
            simp only [mst_]
            rw [Nat.zero_add, ld_at en (v := .int .i64 (p.birth : Int)) rfl]
            simp only [mst_]
            by_cases c4 : z.birth = p.birth
            · rw [if_pos (by rw [beq_iff_eq]; omega), rd 4 ev _ (by omega) rfl]
              obtain ⟨ea, ec, rfl, es, _⟩ := eb
              simp only [mst_]
              obtain ⟨pa, pc, rfl, psl, pav⟩ := by_
              rw [Nat.zero_add, ld_at en (v := .slice pa p.data.length pc) rfl]
              simp only [mst_]
              obtain ⟨m, lm, e1⟩ := same_spec (f := f) hf Y ec pc (es.ext x) (psl.ext x) (by omega) (nx + 56)
              rw [e1]
              simp only [mst_]
              rw [wsucc (i := k) (by omega)]
              refine ih lf (k + 1) _ _ h _ (by omega) (by omega) ?_ ⟨by omega, x.2⟩ (by omega) en ⟨pa, pc, rfl, psl, pav⟩
              by_cases c5 : z.data = p.data
              · exact .inl (decide_eq_true c5)
              · exact .inr (no fun q => c5 (by rw [q]))
            · rw [if_neg (by rw [beq_iff_eq]; omega)]
              exact fail fun q => c4 (by rw [q])
          · rw [if_neg (by rw [beq_iff_eq]; omega)]
            exact fail fun q => c3 (by rw [q])
        · rw [if_neg (by rw [beq_iff_eq]; omega)]
          exact fail fun q => c2 (by rw [q])
      · rw [if_neg (by rw [beq_iff_eq]; omega)]
        exact fail fun q => c1 (by rw [q])

theorem sh_loop {f : Nat} (hf : 10010 ≤ f) {Y : YldF} {g : Nat} (hg : 10010 ≤ g) {hS : AHeap} {nS jb off V top : Nat} {ds : List Int} {xa na aa : Option (Nat × Nat)} {ac xc nc : Bool} {had now : List Pl} (w : HF hS nS jb off V ds xa na had now) (hV : V ≤ 10000) (hT : top ≤ 10000)
    (ok : ∀ p ∈ now, p.birth ≤ V ∧ (p.birth = V ↔ (Tch off ds.length p ∨ top < p.lv)) ∧ (p.birth ≠ V → p ∈ had)) (d : Nat) :
    ∀ (lf i : Nat) (h : AHeap) (nx : Nat), i + d = now.length → d < lf → Ext hS nS h nx → ∃ h' nx', F4_L3 (callP Try.prog keepT f) Y g lf (some (jb, 0)) aa V ac xa had.length xc (top : Int) na now.length nc (i : Int) h nx = some (.bool true, h', nx') := by
  have hn := w.hn
  have jl := w.jl
  obtain ⟨sv, da, dc, ej0⟩ := w.ej
  have ho := w.ho
  have hd := w.hd
  induction d with
  | zero =>
    intro lf i h nx e hl x
    obtain ⟨lf, rfl⟩ : ∃ m, lf = m + 1 := ⟨lf - 1, by omega⟩
    rw [F4_L3_eq, if_neg (by rw [decide_eq_true_eq]; omega)]
    exact ⟨_, _, rfl⟩
  | succ d ih =>
    intro lf i h nx e hl x
    obtain ⟨lf, rfl⟩ : ∃ m, lf = m + 1 := ⟨lf - 1, by omega⟩
    have hi : i < now.length := by omega
    have lx := x.1
    have rowsx := w.rn.go (x.fr fun _ => False) (fun _ _ q => q) (fun _ _ q => q) (fun _ _ r => r)
    obtain ⟨r, ⟨dv, rfl, db⟩, _, rd, _⟩ := rowsx.read (R := Res) (List.getElem?_eq_getElem hi)
    have okp := ok now[i] (List.getElem_mem hi)
    obtain ⟨d1, d2, d3, d4⟩ := w.dd now[i] (.inr (List.getElem_mem hi))
    generalize now[i] = p at *
    obtain ⟨k1, k2, k3⟩ := okp
    rw [F4_L3_eq, if_pos (decide_eq_true (by omega)), rd]
    have db0 := db
    obtain ⟨pa, pc, rfl, _, _⟩ := db
    simp only [mst_, mst5]
    rw [st_all (put_same h (nx + 8) _) (by simp) (by simp) (by simp [allOne, AV.one]), put_put]
    have er := put_same h (nx + 8) (some ⟨[.int .i64 (p.lv : Int), .int .i64 (p.base : Int), .int .i64 (p.id : Int), .int .i64 (p.birth : Int), .slice pa p.data.length pc], 5, true⟩)
    have x1 : Ext h nx (h.put (nx + 8) (some ⟨[.int .i64 (p.lv : Int), .int .i64 (p.base : Int), .int .i64 (p.id : Int), .int .i64 (p.birth : Int), .slice pa p.data.length pc], 5, true⟩)) (nx + 9) := ⟨by omega, fun i hi => put_ne (by omega)⟩
    generalize h.put (nx + 8) (some ⟨[.int .i64 (p.lv : Int), .int .i64 (p.base : Int), .int .i64 (p.id : Int), .int .i64 (p.birth : Int), .slice pa p.data.length pc], 5, true⟩) = h1 at *
    have xx : ∀ m, nx + 9 ≤ m → Ext hS nS h1 m := fun m hm => ⟨by omega, fun i hi => (x1.2 i (by omega)).trans (x.2 i hi)⟩
    have ej := ((xx (nx + 9) (by omega)).2 jb jl).trans ej0
    rw [ld_at er (v := .int .i64 (p.base : Int)) rfl]
    simp only [mst_]
    rw [Nat.zero_add, ld_at ej (v := .int .i64 (off : Int)) rfl]
    simp only [mst_]
    rw [Nat.zero_add, ld_at ej (v := .slice da ds.length dc) rfl]
    simp only [mst_]
    rw [show wrapA .i64 ((off : Int) + ((ds.length : Nat) : Int)) = ((off + ds.length : Nat) : Int) by rw [wA (by omega) (by omega)]; omega]
    have hrl := room3_le d2
    -- from the judgement on
    have j5 : ∀ c, nx + 9 ≤ c → ∃ h' nx', F4_J5 (callP Try.prog keepT f) Y g lf (some (jb, 0)) aa V ac xa had.length xc (top : Int) na now.length nc (i : Int) (some (nx + 8, 0)) h1 c = some (.bool true, h', nx') := fun c hc => by
      rw [F4_J5_eq]
      simp only [mst_]
      rw [Nat.zero_add, ld_at er (v := .int .i64 (p.birth : Int)) rfl]
      simp only [mst_]
      by_cases cb : p.birth = V
      · rw [if_pos (by rw [beq_iff_eq]; omega), wsucc (i := i) (by omega)]
        exact ih lf (i + 1) h1 _ (by omega) (by omega) (xx _ (by omega))
      · rw [if_neg (by rw [beq_iff_eq]; omega)]
        have hh := w.hh
        exact find_loop (P := fun r => ∃ h' nx', r = some (.bool true, h', nx')) hf (lf3 := lf) w (i := i) (nb := nx + 8) (p := p) (top := (top : Int)) (by omega) (fun h' nx' x' => ih lf (i + 1) h' nx' (by omega) (by omega) x') d1 had.length g 0 false (.slice pa p.data.length pc) h1 (c + 7) (by omega) (by omega) (.inr (k3 cb)) (xx _ (by omega)) (by omega) er db0
    have j4 : ∀ (tb : Bool) c, nx + 9 ≤ c → (tb = true ↔ Tch off ds.length p) → ∃ h' nx', F4_J4 (callP Try.prog keepT f) Y g lf (some (jb, 0)) aa V ac xa had.length xc (top : Int) na now.length nc (i : Int) (some (nx + 8, 0)) tb h1 c = some (.bool true, h', nx') := fun tb c hc ht => by
      rw [F4_J4_eq]
      simp only [mst_]
      rw [Nat.zero_add, ld_at er (v := .int .i64 (p.birth : Int)) rfl]
      simp only [mst_]
      rw [if_neg (by rw [decide_eq_true_eq]; omega), ld_at er (v := .int .i64 (p.birth : Int)) rfl]
      simp only [mst_]
      cases tb with
      | true =>
        rw [if_true']
        have hb : p.birth = V := k2.2 (.inl (ht.1 rfl))
        rw [if_neg (by simp [hb])]
        exact j5 _ (by omega)
      | false =>
        rw [if_false', ld_at er (v := .int .i64 (p.lv : Int)) rfl]
        simp only [mst_]
        have hnt : ¬ Tch off ds.length p := fun q => by have := ht.2 q; cases this
        have : ((p.birth : Int) == (V : Int)) = decide ((p.lv : Int) > (top : Int)) := by
          rw [Bool.eq_iff_iff, beq_iff_eq, decide_eq_true_eq]
          constructor
          · intro q
            rcases k2.1 (by omega) with q | q
            · exact absurd q hnt
            · omega
          · intro q; have := k2.2 (.inr (by omega)); omega
        rw [if_neg (by rw [this]; simp)]
        exact j5 _ (by omega)
    by_cases ct : p.base < off + ds.length
    · rw [if_pos (decide_eq_true (by omega)), ld_at er (v := .int .i64 (p.base : Int)) rfl]
      simp only [mst_]
      rw [ld_at er (v := .int .i64 (p.lv : Int)) rfl]
      simp only [mst_]
      rw [Room_spec (by omega) Y (by omega)]
      simp only [mst_]
      rw [ld_at ej (v := .int .i64 (off : Int)) rfl]
      simp only [mst_]
      rw [ifKept_pos (by exact ⟨fun _ _ => rfl, fun _ _ => rfl, trivial⟩), show wrapA .i64 ((p.base : Int) + (room p.lv : Int)) = ((p.base + room p.lv : Nat) : Int) by rw [wA (by omega) (by omega)]; omega]
      exact j4 _ _ (by omega) (by rw [decide_eq_true_eq]; unfold Tch; omega)
    · rw [if_neg (by rw [decide_eq_true_eq]; omega)]
      exact j4 false _ (by omega) ⟨fun q => (by cases q), fun q => absurd q.1 ct⟩

theorem plc_data : ∀ (l base : Nat) (t : Tr) (p : Pl), p ∈ plc l base t → p.data.length ≤ 64
  | l, base, .nil, p, h => by rw [plc_nil] at h; cases h
  | 0, base, .nd id bi k ds, p, h => by
    simp only [plc, List.mem_singleton] at h; subst h
    simp only [datL_len]; exact Nat.le_refl _
  | l + 1, base, .nd id bi k ds, p, h => by
    rcases plc_mem.1 h with rfl | ⟨i, hi, h⟩
    · simp
    · exact plc_data _ _ _ p h

theorem TreeShares_run (h : AHeap) (nx : Nat) (a0 : Option (Nat × Nat)) (c0 : List (List AV)) (g0 : c0.length * 48 ≤ 140737488351232) (t0 : ∀ c ∈ c0, Ty h nx EdtSh c) (sl0 : Sl h nx a0 c0.length EdtSh.n c0.flatten) (x1 : Int) (_ : (Lit.int .i64 x1).wf = true)
    (l2 : List Int) (g2 : l2.length * 1 ≤ 140737488351232) (_ : ∀ n ∈ l2, (Lit.int .u8 n).wf = true) (a2 : Option (Nat × Nat)) (sl2 : Sl h nx a2 l2.length 1 (l2.map (AV.int .u8))) (x3 : Int) (_ : (Lit.int .i64 x3).wf = true) :
    ∃ f h' nx', callP Try.prog keepT f Y0 4 [.slice a0 c0.length false, .int .i64 x1, .slice a2 l2.length false, .int .i64 x3] h nx = some (.bool true, h', nx') := by
  obtain ⟨el, hel, ew⟩ := edts_rows t0 sl0
  rw [← hel] at g0 ⊢
  clear hel t0 sl0
  refine ⟨20001, ?_⟩
  rw [F4_eq]
  obtain ⟨sa, sc, h1, n1, q1, q2, q3⟩ := steps_spec (f := 20000) (by omega) Y0 false (h0 := h) (n0 := nx + 4) (ew.same ⟨by omega, fun _ _ => rfl⟩ (fun _ _ r => r.ext ⟨by omega, fun _ _ => rfl⟩)) (m := 20) (by omega)
  have q1' : callP Try.prog keepT 20000 Y0 7 [.slice a0 el.length false, .int .i64 20] h (nx + 4) = _ := q1
  rw [q1']
  simp only [mst_]
  have hl20 : (stepsL 0 20 el).length ≤ 20 := by rw [stepsL_len]; omega
  have okj : OkAll fo0 (stepsL 0 20 el) := stepsL_ok 0 20 el fo0 (by simp [fo0])
  have mkj := stepsL_mk 0 20 el
  generalize stepsL 0 20 el = jobs at *
  obtain ⟨vs, hvs, hrun⟩ := runF_mk jobs fo0 mkj
  have hlen : (runF fo0 jobs).vs.length = jobs.length + 1 := by rw [hrun, List.length_append, hvs]; simp [fo0]; omega
  rw [wsucc (by omega)]
  have hv := pickN_lt (x := x3) (show 0 < jobs.length + 1 by omega)
  rw [picked_spec (f := 20000) (by omega) Y0 x3 ((jobs.length + 1 : Nat) : Int) (by omega) (by omega), pickN_eq (n := jobs.length + 1) (by omega)]
  simp only [mst_]
  generalize pickN x3 (jobs.length + 1) = v at *
  rw [picked3000 (f := 20000) (by omega)]
  simp only [mst_]
  have hoff := pickN_lt (x := x1) (show 0 < 3000 by omega)
  generalize pickN x1 3000 = off at *
  generalize hjb : n1 + 6 + pickK x3 ((jobs.length + 1 : Nat) : Int) + 6 = jb
  generalize hc2 : n1 + 6 + pickK x3 ((jobs.length + 1 : Nat) : Int) + 8 + pickK x1 3000 = c2
  have l1 := q2.1
  obtain ⟨da, dc, h2, n2, b1, b2, b3, _⟩ := block_spec (f := 20000) (by omega) Y0 (bs := l2) (n := 400) (by omega) (by omega) false (h := h1) (nx := c2) (ns := n1) (sl2.ext ⟨by omega, fun i hi => q2.2 i (by omega)⟩) (by omega)
  have b1' : callP Try.prog keepT 20000 Y0 9 [.slice a2 l2.length false, .int .i64 400] h1 c2 = _ := b1
  rw [b1']
  simp only [mst_]
  have hbl := blockL_len (bs := l2) (show 1 ≤ 400 by omega)
  generalize blockL l2 400 = ds at *
  have l2' := b2.1
  rw [st_all (put_same h2 jb _) (by simp) (by simp) (by simp [allOne, AV.one]), put_put]
  obtain ⟨st, hst⟩ : ∃ st : Stp, st = ⟨1, v, off, 0, ds⟩ := ⟨_, rfl⟩
  generalize hh3 : h2.put jb _ = h3
  have x3' : Ext h1 n1 h3 n2 := ⟨by omega, fun i hi => by rw [← hh3, put_ne (by omega), b2.2 i (by omega)]⟩
  have ej : h3 jb = some ⟨[.int .i64 1, .int .i64 (v : Int), .int .i64 (off : Int), .int .i64 0, .slice da ds.length dc], 5, true⟩ := by rw [← hh3, put_same]
  have sd3 : Sl h3 n2 da ds.length 1 (ints .u8 ds) := by rw [← hh3]; exact (b3.putLow (by omega) (by omega)).sl
  have rw3 : Rows (StepR h3 n2 fun _ => False) h3 n2 (fun _ => False) sa 5 jobs := q3.same x3' (fun _ _ r => r.ext x3')
  obtain ⟨rows, rd, e5, r1, r2, r3, r4, r5, r6, r7, r8⟩ := copy_rows rw3 (bytes := 56) (id := n2 + 1) (by omega) (by omega) (by omega)
  rw [r1]
  simp only [mst_]
  rw [r2]
  simp only [mst_]
  have ej5 := (r4.2 jb (by omega)).trans ej
  rw [ldr_all ej5 (by simp)]
  simp only [mst_, mst5]
  obtain ⟨e6, p1, p2, p3, p4, p5, p6, p7, p8⟩ := r5.push e5.c (bytes := 56) (id := n2 + 3) (id2 := n2 + 4) (x := st) (r := [.int .i64 1, .int .i64 (v : Int), .int .i64 (off : Int), .int .i64 0, .slice da ds.length dc]) rfl (by rw [hst]; exact ⟨_, rfl, da, dc, rfl, sd3, fun _ _ _ q => q⟩) (growOk_of (by omega) (by omega)) (by omega) (by omega)
  rw [p1]
  simp only [mst_]
  rw [r3, p2]
  simp only [mst_]
  rw [p3] at p5
  rw [p3, p4]
  rw [ifApart_pos (by
    simp only [AllApart]
    exact ⟨fun x hx => by have := r7 x hx; simp; omega, fun x hx q => by have := r8 x q; simp at hx; omega, trivial⟩)]
  have x6 : Ext h3 n2 (((h3.puts e5.sets).put (n2 + 3) (some ⟨[.int .i64 1, .int .i64 (v : Int), .int .i64 (off : Int), .int .i64 0, .slice da ds.length dc], 5, true⟩)).puts e6.sets) (n2 + 5) := ⟨by omega, fun i hi => by rw [p6.2 i (by omega) (fun q => by have := r6 i q; omega), r4.2 i hi]⟩
  generalize ((h3.puts e5.sets).put (n2 + 3) (some ⟨[.int .i64 1, .int .i64 (v : Int), .int .i64 (off : Int), .int .i64 0, .slice da ds.length dc], 5, true⟩)).puts e6.sets = h6 at *
  have hal : (jobs ++ [st]).length = jobs.length + 1 := by simp
  have rw6 : Rows (StepR h6 (n2 + 5) fun _ => False) h6 (n2 + 5) (fun _ => False) (some (n2 + 4, 0)) 5 (jobs ++ [st]) := (p5.rows (A := fun _ => False) (fun _ _ q => q)).same ⟨by omega, fun _ _ => rfl⟩ (fun _ _ r => r.ext x6)
  have mk1 : MkAll [st] := fun s hs => by simp at hs; subst hs; rw [hst]; exact .inl rfl
  have ok6 : OkAll fo0 (jobs ++ [st]) := OkAll_app okj ⟨⟨by rw [hst]; simp only; omega, .inl (by rw [hst]; exact ⟨rfl, by simp only; omega, by simp only; omega⟩)⟩, trivial⟩
  have hvall : (runF fo0 (jobs ++ [st])).vs.length = jobs.length + 2 := by
    obtain ⟨vs2, hvs2, hrun2⟩ := runF_mk [st] (runF fo0 jobs) mk1
    rw [runF_app, hrun2, List.length_append, hvs2, hlen]; simp
  rw [← hal]
  -- the old version's nodes
  obtain ⟨rows1, rd1, e7, s1, s2, s3, s4, s5, s6, s7, s8⟩ := copy_rows rw6 (bytes := 56) (id := n2 + 7) (by omega) (by omega) (by omega)
  rw [s1]
  simp only [mst_]
  rw [s2]
  simp only [mst_]
  rw [s3]
  have x7 : Ext h6 (n2 + 5) (h6.puts e7.sets) (n2 + 15) := s4.le (by omega)
  have rw7 : Rows (StepR (h6.puts e7.sets) (n2 + 15) fun _ => False) (h6.puts e7.sets) (n2 + 15) (fun _ => False) e7.a 5 (jobs ++ [st]) := (s5.rows (A := fun _ => False) (fun _ _ q => q)).same ⟨by omega, fun _ _ => rfl⟩ (fun _ _ r => r.ext x7)
  generalize h6.puts e7.sets = h7 at *
  obtain ⟨ma, mc, h8, n8, qa, Na, y1, y2, y3, y4⟩ := Nodes_spec (f := 20000) (by omega) Y0 e7.c rw7 ok6 (by omega) (v := v) (by omega)
  rw [y1]
  simp only [mst_]
  rw [verV_old mk1 (by omega)] at y4
  have x68 : Ext h6 (n2 + 5) h8 n8 := ⟨by have := x7.1; have := y2.1; omega, fun i hi => by rw [y2.2 i (by omega), x7.2 i hi]⟩
  have rw8 : Rows (StepR h8 n8 fun _ => False) h8 n8 (fun _ => False) (some (n2 + 4, 0)) 5 (jobs ++ [st]) := rw6.same x68 (fun _ _ r => r.ext x68)
  -- the new version's nodes
  obtain ⟨rows2, rd2, e9, t1, t2, t3, t4, t5, t6, t7, t8⟩ := copy_rows rw8 (bytes := 56) (id := n8 + 1) (by omega) (by omega) (by omega)
  rw [t1]
  simp only [mst_]
  rw [t2]
  simp only [mst_]
  rw [t3]
  have x9 : Ext h8 n8 (h8.puts e9.sets) (n8 + 10) := t4.le (by omega)
  have rw9 : Rows (StepR (h8.puts e9.sets) (n8 + 10) fun _ => False) (h8.puts e9.sets) (n8 + 10) (fun _ => False) e9.a 5 (jobs ++ [st]) := (t5.rows (A := fun _ => False) (fun _ _ q => q)).same ⟨by omega, fun _ _ => rfl⟩ (fun _ _ r => r.ext x9)
  generalize h8.puts e9.sets = h9 at *
  obtain ⟨na, nc, h10, n10, qb, Nb, z1, z2, z3, z4⟩ := Nodes_spec (f := 20000) (by omega) Y0 e9.c rw9 ok6 (by omega) (v := (jobs ++ [st]).length) (by omega)
  rw [z1]
  simp only [mst_]
  have okv := verV_ok okj (v := v) (by omega)
  have okw := verV_ok ok6 (v := (jobs ++ [st]).length) (by omega)
  have hL1 := lev_le (verV jobs v).s
  have hL2 := lev_le (verV (jobs ++ [st]) (jobs ++ [st]).length).s
  have x810 : Ext h8 n8 h10 n10 := ⟨by have := x9.1; have := z2.1; omega, fun i hi => by rw [z2.2 i (by have := x9.1; omega), x9.2 i hi]⟩
  have y3' : ∀ m, n10 ≤ m → Rows (NodR h10 m fun _ => False) h10 m (fun _ => False) ma 5 Na := fun m hm => y3.same (x810.le hm) (fun _ _ r => r.go ((x810.le hm).fr fun _ => False) (fun _ _ q => q) (fun _ _ q => q))
  obtain ⟨j1, j2, h11, n11, k1, k2, _⟩ := whole_spec (f := 20000) (by omega) Y0 mc hL1 okv.gd y4 (y3' (n10 + 7) (by omega))
  rw [k1]
  simp only [mst_]
  have x1011 : Ext h10 n10 h11 (n11 + 7) := ⟨by have := k2.1; omega, fun i hi => k2.2 i (by omega)⟩
  have z3' : Rows (NodR h11 (n11 + 7) fun _ => False) h11 (n11 + 7) (fun _ => False) na 5 Nb := z3.same x1011 (fun _ _ r => r.go (x1011.fr fun _ => False) (fun _ _ q => q) (fun _ _ q => q))
  obtain ⟨j3, j4, h12, n12, k3, k4, _⟩ := whole_spec (f := 20000) (by omega) Y0 nc hL2 okw.gd z4 z3'
  rw [k3]
  simp only [mst_]
  have hvw := verV_write (jobs := jobs) (st := st) (by rw [hst])
  rw [hlen, ← hal] at hvw
  have hstv : st.ver = v ∧ st.off = off ∧ st.bs = ds := by rw [hst]; exact ⟨rfl, rfl, rfl⟩
  rw [hstv.1, hstv.2.1, hstv.2.2] at hvw
  have hnn : (verV (jobs ++ [st]) (jobs ++ [st]).length).t ≠ .nil := fun e => by
    have := okw.nl.2 e
    rw [hvw] at this; simp only at this; omega
  have hNb : Nb.length ≠ 0 := fun e => hnn (z4.nil_iff.1 e)
  rw [if_neg (by decide), if_neg (by decide), if_neg (by rw [beq_iff_eq]; omega), F4_J1_eq]
  have x1012 : Ext h10 n10 h12 n12 := ⟨by have := x1011.1; have := k4.1; omega, fun i hi => by rw [k4.2 i (by have := x1011.1; omega), x1011.2 i hi]⟩
  have x812 : Ext h8 n8 h12 n12 := ⟨by have := x810.1; have := x1012.1; omega, fun i hi => by rw [x1012.2 i (by have := x810.1; omega), x810.2 i hi]⟩
  have y12 : Rows (NodR h12 n12 fun _ => False) h12 n12 (fun _ => False) ma 5 Na := y3.same x812 (fun _ _ r => r.go (x812.fr fun _ => False) (fun _ _ q => q) (fun _ _ q => q))
  have z12 : Rows (NodR h12 n12 fun _ => False) h12 n12 (fun _ => False) na 5 Nb := z3.same x1012 (fun _ _ r => r.go (x1012.fr fun _ => False) (fun _ _ q => q) (fun _ _ q => q))
  have x612 : Ext h6 (n2 + 5) h12 n12 := ⟨by have := x68.1; have := x812.1; omega, fun i hi => by rw [x812.2 i (by have := x68.1; omega), x68.2 i hi]⟩
  have ej12 : h12 jb = some ⟨[.int .i64 1, .int .i64 (v : Int), .int .i64 (off : Int), .int .i64 0, .slice da ds.length dc], 5, true⟩ := by rw [x612.2 jb (by omega), x6.2 jb (by omega)]; exact ej
  have ln12 : n2 ≤ n12 := by have := x612.1; omega
  -- the rest
  have hs2 : (verV (jobs ++ [st]) (jobs ++ [st]).length).s ≤ 4096 := okw.hs
  have hr1 := room3_le hL1
  have hr2 := room3_le hL2
  have len1 : ∀ (L : Nat) (t : Tr), L ≤ 3 → (plc L 0 t).length ≤ 625 := fun L t hL => by
    rw [plc_len_le]
    have a1 := cntT_le L t
    have a2 : 5 ^ (L + 1) ≤ 5 ^ 4 := Nat.pow_le_pow_right (by omega) (by omega)
    omega
  have tail : ∀ (top : Nat) (hadA : Option (Nat × Nat)) (hadC : Bool) (h13 : AHeap) (c13 : Nat), top ≤ 10000 → ((verV jobs v).t ≠ .nil → top = lev (verV jobs v).s) → Ext h12 n12 h13 c13 → Rows (PlR h12 n12) h13 c13 (fun _ => False) hadA 5 (plc (lev (verV jobs v).s) 0 (verV jobs v).t) →
      ∃ h' nx', F4_J2 (callP Try.prog keepT 20000) Y0 20000 (some (jb, 0)) (some (n2 + 4, 0)) (jobs ++ [st]).length e6.c na Nb.length nc hadA (plc (lev (verV jobs v).s) 0 (verV jobs v).t).length hadC (top : Int) h13 c13 = some (.bool true, h', nx') := by
    intro top hadA hadC h13 c13 htop ht x13 hr
    rw [F4_J2_eq]
    cases htt : (verV (jobs ++ [st]) (jobs ++ [st]).length).t with
    | nil => exact absurd htt hnn
    | nd id bi k dd =>
      rw [htt] at z4
      obtain ⟨wi, hq0⟩ := BF.root (x := (_, .nd id bi k dd)) z4
      have x13' : Ext h12 n12 h13 (c13 + 3) := x13.le (by omega)
      have z13 : Rows (NodR h13 (c13 + 3) fun _ => False) h13 (c13 + 3) (fun _ => False) na 5 Nb := z12.same x13' (fun _ _ r => r.go (x13'.fr fun _ => False) (fun _ _ q => q) (fun _ _ q => q))
      obtain ⟨pa, pc, h14, n14, g1, g2, g3, _⟩ := pl_all (Y := Y0) (ac := nc) wi z13 _ 20000 hL2 (by omega) 0 0 (.nd id bi k dd) h13 (c13 + 3) hq0 (fun z => by cases z) (by omega) ⟨by omega, fun _ _ => rfl⟩
      have g1' : callP Try.prog keepT 20000 Y0 13 [.slice na Nb.length nc, .int .i64 0, .int .i64 0] h13 (c13 + 3) = _ := g1
      rw [g1']
      simp only [mst_]
      have x14 : Ext h13 (c13 + 3) h14 (n14 + 1) := g2.le (by omega)
      have x1214 : Ext h12 n12 h14 (n14 + 1) := ⟨by have := x13'.1; have := x14.1; omega, fun i hi => by rw [x14.2 i (by have := x13'.1; omega), x13'.2 i hi]⟩
      have plext : ∀ {hA hB : AHeap} {nA nB : Nat}, Ext hA nA hB nB → ∀ (p : Pl) (r : List AV), PlR hA nA p r → PlR hB nB p r := fun xx p r ⟨dv, e, b⟩ => ⟨dv, e, b.go (xx.fr fun _ => False) (fun _ _ q => q) (fun _ _ q => q)⟩
      have hf : HF h14 (n14 + 1) jb off (jobs ++ [st]).length ds hadA pa (plc (lev (verV jobs v).s) 0 (verV jobs v).t) (plc (lev (verV (jobs ++ [st]) (jobs ++ [st]).length).s) 0 (.nd id bi k dd)) := by
        refine ⟨hr.same ⟨by have := x14.1; omega, fun i hi => x14.2 i (by omega)⟩ (fun p r q => plext x1214 p r q), (g3.rows (A := fun _ => False) (fun _ _ q => q)).same ⟨by omega, fun _ _ => rfl⟩ (fun p r q => plext x14 p r q), by have := x1214.1; omega, ⟨v, da, dc, by rw [x1214.2 jb (by omega)]; exact ej12⟩, by omega, by omega, by have := len1 _ (verV jobs v).t hL1; omega, by have := len1 _ (.nd id bi k dd) hL2; omega, fun p hp => ?_⟩
        rcases hp with hp | hp
        · have a1 := plc_in okv.gd hp
          exact ⟨plc_data _ _ _ p hp, by omega, by omega, by omega⟩
        · have a1 := plc_in (by rw [← htt]; exact okw.gd) hp
          exact ⟨plc_data _ _ _ p hp, by omega, by omega, by omega⟩
      have key := sh_loop (f := 20000) (by omega) (Y := Y0) (g := 20000) (by omega) (aa := some (n2 + 4, 0)) (ac := e6.c) (xc := hadC) (nc := pc) (top := top) hf (by omega) htop (fun p hp => by
        rw [← htt] at hp
        have hp' : p ∈ plc (lev (max (verV jobs v).s (off + ds.length))) 0 (wrV (jobs ++ [st]).length off ds (verV jobs v) (runF fo0 jobs).m).1 := by rw [hvw] at hp; exact hp
        exact wrV_plc okv (by omega) hp' ht) _ 20000 0 h14 (n14 + 1) (Nat.zero_add _) (by have := len1 _ (.nd id bi k dd) hL2; omega) ⟨Nat.le_refl _, fun _ _ => rfl⟩
      exact key
  by_cases cN : Na.length = 0
  · rw [if_neg (by rw [decide_eq_true_eq]; omega)]
    have ht := y4.nil_iff.1 cN
    have := tail 100 none false h12 (n12 + 19 + 5) (by omega) (fun q => absurd ht q) ⟨by omega, fun _ _ => rfl⟩ (by rw [ht, plc_nil]; exact Rows.nil _ _ _ _ _ _)
    rw [ht, plc_nil] at this
    exact this
  · rw [if_pos (decide_eq_true (by omega))]
    have hnt : (verV jobs v).t ≠ .nil := fun e => cN (y4.nil_iff.2 e)
    cases htt : (verV jobs v).t with
    | nil => exact absurd htt hnt
    | nd id bi k dd =>
      rw [htt] at y4
      obtain ⟨wi, hq0⟩ := BF.root (x := (_, .nd id bi k dd)) y4
      have y12' : Rows (NodR h12 (n12 + 19 + 8) fun _ => False) h12 (n12 + 19 + 8) (fun _ => False) ma 5 Na := y12.same ⟨by omega, fun _ _ => rfl⟩ (fun _ _ r => r.go (Frm.le (Frm.refl (fun _ => False) _ _) (by omega)) (fun _ _ q => q) (fun _ _ q => q))
      obtain ⟨pa, pc, h13, n13, g1, g2, g3, _⟩ := pl_all (Y := Y0) (ac := mc) wi y12 _ 20000 hL1 (by omega) 0 0 (.nd id bi k dd) h12 (n12 + 19 + 8) hq0 (fun z => by cases z) (by omega) ⟨by omega, fun _ _ => rfl⟩
      have g1' : callP Try.prog keepT 20000 Y0 13 [.slice ma Na.length mc, .int .i64 0, .int .i64 0] h12 (n12 + 19 + 8) = _ := g1
      rw [g1']
      simp only [mst_]
      have x13 : Ext h12 n12 h13 n13 := ⟨by have := g2.1; omega, fun i hi => g2.2 i (by omega)⟩
      have hrec := (wi.rc 0 _ (List.getElem?_eq_some_iff.1 hq0).1 hq0).1
      have hlv : (recOf (mq qa 0) (lev (verV jobs v).s, .nd id bi k dd)).lv = lev (verV jobs v).s := by cases lev (verV jobs v).s <;> rfl
      obtain ⟨r, ⟨kv, dv, rfl, _, _⟩, _, _, rd⟩ := (y12.same x13 (fun _ _ r => r) : Rows (NodR h12 n12 fun _ => False) h13 n13 (fun _ => False) ma 5 Na).read (R := Res) hrec
      have rd2' : ∀ (K : AV → Option Res), (ma.bind fun p => if 0 ≤ (0 : Int) ∧ 0 < ((Na.length : Nat) : Int) then (ldA h13 p.1 ((p.2 + Int.toNat 0 * 5) + 2)).bind K else none) = K (.int .i64 (lev (verV jobs v).s : Int)) := fun K => rd 2 _ K (by omega) (by rw [hlv]; rfl)
      rw [rd2']
      simp only [mst_]
      have := tail (lev (verV jobs v).s) pa pc h13 (n13 + 5) (by omega) (fun _ => rfl) (x13.le (by omega)) (by rw [htt]; exact (g3.rows (A := fun _ => False) (fun _ _ q => q)).same ⟨by omega, fun _ _ => rfl⟩ (fun _ _ r => r))
      rw [htt] at this
      exact this

end Go.Proofs.Ytogmdfbamgjjfaa.T
