/- Pools: PoolRefused. -/
import Derived.Test.YtncmdbpoceilgaaPD
import Derived.Test.YtncmdbpoceilgaaTI
set_option linter.unusedVariables false
set_option linter.unusedSimpArgs false
namespace Go.Proofs.Ytncmdbpoceilgaa.T
open Go Go.RowKit Go.Proofs
set_option maxRecDepth 10000

/-! ### arguments -/
def OrdSh : Sh := .st [.int .i64, .int .i64, .int .i64, .int .i64, .int .i64, .sl (.int .u8)]
theorem ord_of {h : AHeap} {nx : Nat} {v : List AV} (t : Ty h nx OrdSh v) : ∃ o, OrdR h nx (fun _ => False) o v := by
  unfold OrdSh at t
  rw [Ty] at t
  obtain ⟨parts, rfl, t⟩ := t
  rw [TyL] at t; obtain ⟨p0, r0, rfl, t0, t⟩ := t
  rw [TyL] at t; obtain ⟨p1, r1, rfl, t1, t⟩ := t
  rw [TyL] at t; obtain ⟨p2, r2, rfl, t2, t⟩ := t
  rw [TyL] at t; obtain ⟨p3, r3, rfl, t3, t⟩ := t
  rw [TyL] at t; obtain ⟨p4, r4, rfl, t4, t⟩ := t
  rw [TyL] at t; obtain ⟨p5, r5, rfl, t5, t⟩ := t
  rw [TyL] at t; subst t
  rw [Ty] at t0 t1 t2 t3 t4
  obtain ⟨n0, rfl, _⟩ := t0
  obtain ⟨n1, rfl, _⟩ := t1
  obtain ⟨n2, rfl, _⟩ := t2
  obtain ⟨n3, rfl, _⟩ := t3
  obtain ⟨n4, rfl, _⟩ := t4
  obtain ⟨a, l, rfl, _, s⟩ := t5.ints
  exact ⟨⟨n0, n1, n2, n3, n4, l⟩, a, none, rfl, s, fun _ _ _ q => q⟩
theorem ords_of {h : AHeap} {nx : Nat} : ∀ {cells : List (List AV)} (_ : ∀ c ∈ cells, Ty h nx OrdSh c), ∃ os, All2 (OrdR h nx fun _ => False) os cells
  | [], _ => ⟨[], rfl⟩
  | c :: cells, t => by
    obtain ⟨o, ho⟩ := ord_of (t c List.mem_cons_self)
    obtain ⟨os, hos⟩ := ords_of (fun c hc => t c (List.mem_cons_of_mem _ hc))
    exact ⟨o :: os, c, cells, rfl, ho, hos⟩
theorem ord_rows {h : AHeap} {nx : Nat} {a : Option (Nat × Nat)} {cells : List (List AV)} (t : ∀ c ∈ cells, Ty h nx OrdSh c) (s : Sl h nx a cells.length OrdSh.n cells.flatten) : ∃ os : List Ord, os.length = cells.length ∧ Rows (OrdR h nx fun _ => False) h nx (fun _ => False) a 6 os := by
  obtain ⟨os, q⟩ := ords_of t
  have hl := q.len
  refine ⟨os, hl.symm, cells, q, fun r hr => (t r hr).length, ?_, fun _ _ _ q => q⟩
  rw [← hl]; exact s
def kindsL : List Int := [1, 2, 3, 4, 5, 6, 7, 8, 9, 10, 11, 12, 1, 2, 2, 2, 3, 8, 4, 4, 2, 3]

/-! ### the walk -/
theorem refuse_loop {n lf : Nat} (Y : YldF) {h0 : AHeap} {n0 : Nat} {ca ta : Option (Nat × Nat)} (cc tc : Option Nat) {cs : List Cmd} {ts : List Tld} {A1 A2 B1 B2 : Nat → Prop} (wc : Rows (CmdR h0 n0 A1) h0 n0 B1 ca 8 cs) (wt : Rows (ToldR h0 n0 A2) h0 n0 B2 ta 5 ts) (hl : cs.length ≤ 300) (hlt : ts.length = cs.length) :
    ∀ (d n1 i : Nat) (h : AHeap) (nx : Nat) (fa wa : Option (Nat × Nat)) (fc wac : Option Nat) (few : List Cmd) (want : List Tld), cs.length = i + d → d < n1 → Ext h0 n0 h nx →
      OwnRows (CmdR h0 n0 fun _ => False) h nx fa 8 few → OwnRows (ToldR h0 n0 fun _ => False) h nx wa 5 want → (∀ j, ownOf fa j → n0 ≤ j ∧ ¬ ownOf wa j) → (∀ j, ownOf wa j → n0 ≤ j) → few.length ≤ i → want.length ≤ i →
      ∃ n2 h' nx' fa' wa' fc' wac', F6_L2 (callP Try.prog keepT n) Y lf n1 ca cs.length cc ta ts.length tc fa few.length fc wa want.length wac (i : Int) h nx =
          F6_L2 (callP Try.prog keepT n) Y lf (n2 + 1) ca cs.length cc ta ts.length tc fa' (few ++ (okPairs (cs.drop i) (ts.drop i)).map (·.1)).length fc' wa' (want ++ (okPairs (cs.drop i) (ts.drop i)).map (·.2)).length wac' ((cs.length : Nat) : Int) h' nx' ∧
        Ext h0 n0 h' nx' ∧ OwnRows (CmdR h0 n0 fun _ => False) h' nx' fa' 8 (few ++ (okPairs (cs.drop i) (ts.drop i)).map (·.1)) ∧ OwnRows (ToldR h0 n0 fun _ => False) h' nx' wa' 5 (want ++ (okPairs (cs.drop i) (ts.drop i)).map (·.2))
  | 0, n1 + 1, i, h, nx, fa, wa, fc, wac, few, want, hd, _, x, w1, w2, _, _, _, _ => by
    have e1 : cs.drop i = [] := List.drop_eq_nil_of_le (by omega)
    have hi : i = cs.length := by omega
    rw [e1]
    simp only [okPairs, List.zip_nil_left, List.filter_nil, List.map_nil, List.append_nil]
    subst hi
    exact ⟨n1, h, nx, fa, wa, fc, wac, rfl, x, w1, w2⟩
  | d + 1, n1 + 1, i, h, nx, fa, wa, fc, wac, few, want, hd, hn1, x, w1, w2, o1, o2, l1, l2 => by
    have hi : i < cs.length := by omega
    have hit : i < ts.length := by omega
    have gc : cs[i]? = some cs[i] := List.getElem?_eq_getElem hi
    have gt : ts[i]? = some ts[i] := List.getElem?_eq_getElem hit
    have dc : cs.drop i = cs[i] :: cs.drop (i + 1) := List.drop_eq_getElem_cons hi
    have dt : ts.drop i = ts[i] :: ts.drop (i + 1) := List.drop_eq_getElem_cons hit
    generalize cs[i] = c at gc dc
    generalize ts[i] = t at gt dt
    rw [dc, dt]
    unfold okPairs
    rw [List.zip_cons_cons, List.filter_cons]
    have fr0 : ∀ {h' : AHeap} {nx' : Nat}, Ext h0 n0 h' nx' → Rows (CmdR h0 n0 fun _ => False) h' nx' (fun _ => False) ca 8 cs := fun x => wc.go (x.fr fun _ => False) (fun _ _ q => q.elim) (fun _ _ q => q.elim) fun _ _ r => r.go (Frm.refl (fun _ => False) h0 n0) (fun _ _ q => q.elim) (fun _ _ q => q.elim)
    have fr1 : ∀ {h' : AHeap} {nx' : Nat}, Ext h0 n0 h' nx' → Rows (ToldR h0 n0 fun _ => False) h' nx' (fun _ => False) ta 5 ts := fun x => wt.go (x.fr fun _ => False) (fun _ _ q => q.elim) (fun _ _ q => q.elim) fun _ _ r => r.go (Frm.refl (fun _ => False) h0 n0) (fun _ _ q => q.elim) (fun _ _ q => q.elim)
    obtain ⟨r1, t1, _, _, rd1⟩ := (fr1 x).read (R := AV × AHeap × Nat) gt
    have hx1 := x.1
    rw [F6_L2_eq, if_pos (by simp; omega)]
    dsimp only
    have rd1' := fun K : AV → Option (AV × AHeap × Nat) => rd1 0 (.int .i64 t.code) K (by omega) (by obtain ⟨_, _, rfl, _⟩ := t1; rfl)
    simp only [Nat.add_zero] at rd1'
    rw [rd1']
    simp only [mst_, mst5_]
    by_cases hz : t.code = 0
    · rw [if_pos (by rw [beq_iff_eq]; exact hz), if_pos (by simp [hz])]
      obtain ⟨r2, t2, hlen2, rd2, _⟩ := (fr0 x).read (R := AV × AHeap × Nat) gc
      rw [rd2]
      obtain ⟨x5, x6, ba, bc, rfl, cdat⟩ := t2
      obtain ⟨e, a1, a2, a3, a4, a5, a6, a7, a8⟩ := w1.push fc (bytes := 96) (id := nx + 15) (id2 := nx + 16) (x := c) (r := cmdV c x5 x6 ba bc) rfl ⟨x5, x6, ba, bc, rfl, cdat⟩ (growOk_of (by omega) (by omega)) (by omega) (by omega)
      unfold cmdV at a1 a2 a5 a6 a7 ⊢
      simp only [mst_, mst5_]
      rw [a1]
      simp only [mst_, mst5_]
      rw [a2]
      simp only [mst_, mst5_]
      have he : ∀ j, ownOf e.a j → j = nx + 16 := fun j ⟨oo, hj⟩ => by rw [a3] at hj; exact (Prod.mk.inj (Option.some.inj hj)).1.symm
      have lowf : ∀ j, ownOf fa j → j < nx := fun j hj => w1.low hj
      have loww : ∀ j, ownOf wa j → j < nx := fun j hj => w2.low hj
      generalize (h.put (nx + 15) (some ⟨[AV.int .i64 c.kind, .str c.name, .str c.other, .int .i64 c.off, .int .i64 c.count, .int .i64 x5, .int .i64 x6, .slice ba c.data.length bc], 8, true⟩)).puts e.sets = h1 at *
      have x1 : Ext h0 n0 h1 (nx + 23) := ⟨by omega, fun j hj => (a6.2 j (by omega) (fun hb => by have := (o1 j hb).1; omega)).trans (x.2 j hj)⟩
      have w2' : OwnRows (ToldR h0 n0 fun _ => False) h1 (nx + 23) wa 5 want := w2.go (D := ownOf fa) ⟨by omega, fun j hj hb => a6.2 j (by omega) hb⟩ (fun j hj hb => (o1 j hb).2 hj) fun _ _ q => q
      obtain ⟨r3, t3, _, rd3, _⟩ := (fr1 x1).read (R := AV × AHeap × Nat) gt
      rw [rd3]
      obtain ⟨_, _, rfl, ⟨da, dcc, rfl, dd⟩, ⟨ua, ucc, rfl, uu⟩⟩ := t3
      obtain ⟨e2, b1, b2, b3, b4, b5, b6, b7, b8⟩ := w2'.push wac (bytes := 72) (id := nx + 23) (id2 := nx + 24) (x := t) (r := [.int .i64 t.code, .bool false, .int .i64 t.size, .slice da t.data.length dcc, .slice ua t.names.length ucc]) rfl ⟨_, _, rfl, ⟨da, dcc, rfl, dd⟩, ⟨ua, ucc, rfl, uu⟩⟩ (growOk_of (by omega) (by omega)) (by omega) (by omega)
      simp only [mst_, mst5_]
      rw [b1]
      simp only [mst_, mst5_]
      rw [b2]
      simp only [mst_, mst5_]
      have he2 : ∀ j, ownOf e2.a j → j = nx + 24 := fun j ⟨oo, hj⟩ => by rw [b3] at hj; exact (Prod.mk.inj (Option.some.inj hj)).1.symm
      generalize (h1.put (nx + 23) (some ⟨[AV.int .i64 t.code, .bool false, .int .i64 t.size, .slice da t.data.length dcc, .slice ua t.names.length ucc], 5, true⟩)).puts e2.sets = h2 at *
      have x2 : Ext h0 n0 h2 (nx + 29) := ⟨by omega, fun j hj => (b6.2 j (by omega) (fun hb => by have := o2 j hb; omega)).trans (x1.2 j hj)⟩
      have w1' : OwnRows (CmdR h0 n0 fun _ => False) h2 (nx + 29) e.a 8 (few ++ [c]) := a5.go (D := ownOf wa) ⟨by omega, fun j hj hb => b6.2 j (by omega) hb⟩ (fun j hj hb => by have := he j hj; have := loww j hb; omega) fun _ _ q => q
      have w2'' : OwnRows (ToldR h0 n0 fun _ => False) h2 (nx + 29) e2.a 5 (want ++ [t]) := b5.go (D := fun _ => False) ⟨by omega, fun _ _ _ => rfl⟩ (fun _ _ q => q) fun _ _ q => q
      rw [wsucc (by omega), show e.n = (few ++ [c]).length from by rw [a4]; simp, show e2.n = (want ++ [t]).length from by rw [b4]; simp]
      obtain ⟨n2, h', nx', fa', wa', fc', wac', k1, k2, k3, k4⟩ := refuse_loop (n := n) (lf := lf) Y cc tc wc wt hl hlt d n1 (i + 1) h2 (nx + 29) e.a e2.a e.c e2.c (few ++ [c]) (want ++ [t]) (by omega) (by omega) x2 w1' w2''
        (fun j hj => by have := he j hj; exact ⟨by omega, fun hb => by have := he2 j hb; omega⟩) (fun j hj => by have := he2 j hj; omega) (by simp; omega) (by simp; omega)
      have q1 : few ++ ((c, t) :: ((cs.drop (i + 1)).zip (ts.drop (i + 1))).filter fun p => p.2.code == 0).map (·.1) = (few ++ [c]) ++ (okPairs (cs.drop (i + 1)) (ts.drop (i + 1))).map (·.1) := by simp [okPairs]
      have q2 : want ++ ((c, t) :: ((cs.drop (i + 1)).zip (ts.drop (i + 1))).filter fun p => p.2.code == 0).map (·.2) = (want ++ [t]) ++ (okPairs (cs.drop (i + 1)) (ts.drop (i + 1))).map (·.2) := by simp [okPairs]
      rw [q1, q2]
      exact ⟨n2, h', nx', fa', wa', fc', wac', k1, k2, k3, k4⟩
    · rw [if_neg (by rw [beq_iff_eq]; exact hz), if_neg (by simpa using hz), wsucc (by omega)]
      obtain ⟨n2, h', nx', fa', wa', fc', wac', k1, k2, k3, k4⟩ := refuse_loop (n := n) (lf := lf) Y cc tc wc wt hl hlt d n1 (i + 1) h (nx + 13) fa wa fc wac few want (by omega) (by omega) (x.le (by omega))
        (w1.go (D := fun _ => False) ⟨by omega, fun _ _ _ => rfl⟩ (fun _ _ q => q) fun _ _ q => q) (w2.go (D := fun _ => False) ⟨by omega, fun _ _ _ => rfl⟩ (fun _ _ q => q) fun _ _ q => q) o1 o2 (by omega) (by omega)
      exact ⟨n2, h', nx', fa', wa', fc', wac', k1, k2, k3, k4⟩

theorem PoolRefused_run (h : AHeap) (nx : Nat) (a : Option (Nat × Nat)) (cells : List (List AV)) (_ : cells.length * 64 ≤ 140737488351232) (each : ∀ c ∈ cells, Ty h nx OrdSh c) (sl : Sl h nx a cells.length OrdSh.n cells.flatten) :
    ∃ f h' nx', callP Try.prog keepT f Y0 6 [.slice a cells.length none] h nx = some (.bool true, h', nx') := by
  obtain ⟨os, hol, rows⟩ := ord_rows each sl
  rw [← hol]
  refine ⟨9001, ?_⟩
  rw [F6_eq]
  obtain ⟨h1, n1, e1, x1, b1, l1⟩ := kinds_spec (f := 9000) (by omega) Y0 h (nx + 5)
  rw [e1]
  simp only [mst_, mst5_]
  have x1' : Ext h nx h1 n1 := ⟨by have := x1.1; omega, fun i hi => x1.2 i (by omega)⟩
  have rows1 : Rows (OrdR h1 n1 fun _ => False) h1 n1 (fun _ => False) a 6 os := rows.go (x1'.fr fun _ => False) (fun _ _ q => q.elim) (fun _ _ q => q) fun _ _ r => r.go (x1'.fr fun _ => False) (fun _ _ q => q.elim) (fun _ _ q => q)
  have sk : Sl h1 n1 (some (nx + 5 + 1, 0)) kindsL.length 1 (ints .i64 kindsL) := ⟨by simp [ints], fun j hj => ⟨(nx + 5 + 1, 0), _, rfl, l1, b1, rfl, by simp [kindsL, ints], fun q hq => by simp [kindsL]⟩⟩
  obtain ⟨a2, c2, h2, n2, e2, x2, w2, o2⟩ := commands_spec (f := 9000) (by omega) Y0 none rows1 (some 22) sk (by decide) 80 (by decide)
  have e2' : callP Try.prog keepT 9000 Y0 7 [.slice a os.length none, .int .i64 80, .slice (some (nx + 5 + 1, 0)) 22 (some 22)] h1 n1 = some (.slice a2 (cmdsOf os 80 kindsL).length c2, h2, n2) := e2
  rw [e2']
  simp only [mst_, mst5_]
  have hcl : (cmdsOf os 80 kindsL).length ≤ 80 := cmdsOf_len _ _ _
  have hsm : Small (cmdsOf os 80 kindsL) := cmdsOf_small _ _ _
  generalize cmdsOf os 80 kindsL = cs at *
  have cr : ∀ {h' : AHeap} {n' : Nat}, Ext h2 n2 h' n' → Rows (CmdR h' n' fun _ => False) h' n' (fun _ => False) a2 8 cs := fun x => (w2.rows (A := fun _ => False) fun _ _ q => q).go (x.fr fun _ => False) (fun _ _ q => q) (fun _ _ q => q) fun _ _ r => r.go (x.fr fun _ => False) (fun _ _ q => q.elim) (fun _ _ q => q.elim)
  obtain ⟨a3, c3, h3, n3, e3, x3, w3, o3⟩ := pooled_spec (n := 9000) (by omega) Y0 c2 (cr ((Ext.refl h2 n2).le (by omega : n2 ≤ n2 + 7))) (by omega) hsm
  rw [e3]
  simp only [mst_, mst5_]
  obtain ⟨h4, n4, e4, x4⟩ := begun_spec (n := 9000) (by omega) Y0 h3 (n3 + 6)
  rw [e4]
  simp only [mst_, mst5_]
  rw [F6_J1_eq]
  have l3 := x3.1; have l4 := x4.1
  have x24 : Ext h2 n2 h4 (n4 + 3) := ⟨by omega, fun i hi => (x4.2 i (by omega)).trans (x3.2 i (by omega))⟩
  have x34 : Ext h3 n3 h4 (n4 + 3) := ⟨by omega, fun i hi => x4.2 i (by omega)⟩
  have tr : Rows (ToldR h4 (n4 + 3) fun _ => False) h4 (n4 + 3) (fun _ => False) a3 5 (playP s0 cs) := (w3.rows (A := fun _ => False) fun _ _ q => q).go (x34.fr fun _ => False) (fun _ _ q => q) (fun _ _ q => q) fun _ _ r => r.go (x34.fr fun _ => False) (fun _ _ q => q.elim) (fun _ _ q => q.elim)
  have hpl : (playP s0 cs).length = cs.length := playP_len _ _
  obtain ⟨n5, h5, m5, fa, wa, fc, wac, k1, k2, k3, k4⟩ := refuse_loop (n := 9000) (lf := 9000) Y0 c2 c3 (cr x24) tr (by omega) hpl cs.length 9000 0 h4 (n4 + 3) none none none none [] [] (by omega) (by omega) (Ext.refl _ _) (OwnRows.nil _ _ _ _) (OwnRows.nil _ _ _ _) (fun j ⟨o, e⟩ => (by cases e)) (fun j ⟨o, e⟩ => (by cases e)) (Nat.le_refl _) (Nat.le_refl _)
  rw [List.drop_zero, List.drop_zero, List.nil_append, List.nil_append] at k1
  rw [List.drop_zero, List.drop_zero, List.nil_append] at k3 k4
  have k1' : F6_L2 (callP Try.prog keepT 9000) Y0 9000 9000 a2 cs.length c2 a3 (playP s0 cs).length c3 none 0 none none 0 none 0 h4 (n4 + 3) = _ := k1
  rw [k1', F6_L2_eq, if_neg (by simp)]
  have hfew := few_play cs s0
  have hmem : ∀ c ∈ (okPairs cs (playP s0 cs)).map (·.1), c ∈ cs := fun c hc => by
    obtain ⟨p, hp, rfl⟩ := List.mem_map.1 hc
    exact (List.of_mem_zip (List.mem_filter.1 hp).1).1
  have hlen : ((okPairs cs (playP s0 cs)).map (·.1)).length ≤ 80 := by
    rw [List.length_map]
    refine Nat.le_trans (List.length_filter_le _ _) ?_
    rw [List.length_zip, hpl, Nat.min_self]; exact hcl
  have hsame : ∀ t ∈ (okPairs cs (playP s0 cs)).map (·.2), t.data.length ≤ 2000 ∧ t.names.length ≤ 2000 := fun t ht => by
    obtain ⟨p, hp, rfl⟩ := List.mem_map.1 ht
    exact play_small cs s0_ok _ (List.of_mem_zip (List.mem_filter.1 hp).1).2
  have hlen2 : ((okPairs cs (playP s0 cs)).map (·.2)).length ≤ 80 := by rw [List.length_map] at hlen ⊢; exact hlen
  generalize (okPairs cs (playP s0 cs)).map (·.1) = few at *
  generalize (okPairs cs (playP s0 cs)).map (·.2) = want at *
  have xk : Ext h4 (n4 + 3) h5 (m5 + 11) := k2.le (by omega)
  have rf : Rows (CmdR h5 (m5 + 11) fun _ => False) h5 (m5 + 11) (fun _ => False) fa 8 few := (k3.rows (A := fun _ => False) fun _ _ q => q).go (D := fun _ => False) ⟨by omega, fun _ _ _ => rfl⟩ (fun _ _ q => q) (fun _ _ q => q) fun _ _ r => r.go (xk.fr fun _ => False) (fun _ _ q => q.elim) (fun _ _ q => q.elim)
  obtain ⟨a6, c6, h6, n6, e6, x6, w6, _⟩ := pooled_spec (n := 9000) (by omega) Y0 fc rf (by omega) (fun c hc => hsm c (hmem c hc))
  rw [e6]
  simp only [mst_, mst5_]
  rw [hfew] at w6 ⊢
  have l6 := x6.1
  have y6 : Ext h5 m5 h6 (n6 + 3) := ⟨by omega, fun i hi => x6.2 i (by omega)⟩
  have wW : Rows (ToldR h6 (n6 + 3) fun _ => False) h6 (n6 + 3) (fun _ => False) wa 5 want := (k4.rows (A := fun _ => False) fun _ _ q => q).go (y6.fr fun _ => False) (fun _ _ q => q) (fun _ _ q => q) fun _ _ r => r.go (Ext.fr (show Ext h4 (n4 + 3) h6 (n6 + 3) from ⟨by have := k2.1; omega, fun i hi => (y6.2 i (by have := k2.1; omega)).trans (k2.2 i hi)⟩) fun _ => False) (fun _ _ q => q.elim) (fun _ _ q => q)
  have wU : Rows (ToldR h6 (n6 + 3) fun _ => False) h6 (n6 + 3) (fun _ => False) a6 5 want := (w6.rows (A := fun _ => False) fun _ _ q => q).go (D := fun _ => False) ⟨by omega, fun _ _ _ => rfl⟩ (fun _ _ q => q) (fun _ _ q => q) fun _ _ r => r.go (D := fun _ => False) ⟨by omega, fun _ _ _ => rfl⟩ (fun _ _ q => q.elim) (fun _ _ q => q.elim)
  obtain ⟨h7, n7, e7, _⟩ := same_loop (n := 9000) (lf := 9000) (by omega) Y0 wac c6 wW wU (by omega) hsame want.length 9000 0 h6 (n6 + 3) (by omega) (by omega) (Ext.refl _ _)
  exact ⟨h7, n7, e7⟩
end Go.Proofs.Ytncmdbpoceilgaa.T
