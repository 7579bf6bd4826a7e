/- Pools: PoolBack, the walk. -/
import Derived.Test.YtncmdbpoceilgaaPS
set_option linter.unusedVariables false
set_option linter.unusedSimpArgs false
namespace Go.Proofs.Ytncmdbpoceilgaa.T
open Go Go.RowKit Go.Proofs
set_option maxRecDepth 10000

def backKinds : List Int := [1, 2, 4, 5, 12]
theorem getT_ok {s : Pl} (w : s.Ok) (k : ByteArray) : (getT s.obj k).data.length ≤ 2000 ∧ (getT s.obj k).names.length ≤ 2000 := by
  have := step_small w (cF k)
  rw [fetch_step] at this
  exact this
theorem listT_ok {s : Pl} (w : s.Ok) : (listT s.obj).data.length ≤ 2000 ∧ (listT s.obj).names.length ≤ 2000 := by
  have := step_small w cL
  rw [list_step] at this
  exact this

theorem PoolBack_run (h : AHeap) (nx : Nat) (a : Option (Nat × Nat)) (cells : List (List AV)) (_ : cells.length * 64 ≤ 140737488351232) (each : ∀ c ∈ cells, Ty h nx OrdSh c) (sl : Sl h nx a cells.length OrdSh.n cells.flatten)
    (b : Option (Nat × Nat)) (cells2 : List (List AV)) (_ : cells2.length * 64 ≤ 140737488351232) (each2 : ∀ c ∈ cells2, Ty h nx OrdSh c) (sl2 : Sl h nx b cells2.length OrdSh.n cells2.flatten) (x : Int) (_ : (Lit.int .i64 x).wf = true) :
    ∃ f h' nx', callP Try.prog keepT f Y0 4 [.slice a cells.length none, .slice b cells2.length none, .int .i64 x] h nx = some (.bool true, h', nx') := by
  obtain ⟨os, hol, rows⟩ := ord_rows each sl
  obtain ⟨os2, hol2, rows2⟩ := ord_rows each2 sl2
  rw [← hol, ← hol2]
  refine ⟨9001, ?_⟩
  rw [F4_eq]
  obtain ⟨h1, n1, e1, x1, b1, l1⟩ := kinds_spec (f := 9000) (by omega) Y0 h (nx + 14)
  rw [e1]
  simp only [mst_, mst5_]
  have lx1 := x1.1
  have x1' : Ext h nx h1 n1 := ⟨by omega, fun i hi => x1.2 i (by omega)⟩
  have goO : ∀ {h' : AHeap} {n' : Nat} {a : Option (Nat × Nat)} {os : List Ord}, Rows (OrdR h nx fun _ => False) h nx (fun _ => False) a 6 os → Ext h nx h' n' → Rows (OrdR h' n' fun _ => False) h' n' (fun _ => False) a 6 os := fun r x => r.go (x.fr fun _ => False) (fun _ _ q => q.elim) (fun _ _ q => q) fun _ _ r => r.go (x.fr fun _ => False) (fun _ _ q => q.elim) (fun _ _ q => q)
  have sk : Sl h1 n1 (some (nx + 14 + 1, 0)) kindsL.length 1 (ints .i64 kindsL) := ⟨by simp [ints], fun j hj => ⟨(nx + 14 + 1, 0), _, rfl, l1, b1, rfl, by simp [kindsL, ints], fun q hq => by simp [kindsL]⟩⟩
  obtain ⟨a2, c2, h2, n2, e2, x2, w2, o2⟩ := commands_spec2 (f := 9000) (by omega) Y0 none (goO rows x1') (some 22) sk (by decide) 40 (by decide)
  have e2' : callP Try.prog keepT 9000 Y0 7 [.slice a os.length none, .int .i64 40, .slice (some (nx + 14 + 1, 0)) 22 (some 22)] h1 n1 = some (.slice a2 (cmdsOf os 40 kindsL).length c2, h2, n2) := e2
  rw [e2']
  simp only [mst_, mst5_]
  have hcl : (cmdsOf os 40 kindsL).length ≤ 40 := cmdsOf_len _ _ _
  have hsm : Small (cmdsOf os 40 kindsL) := cmdsOf_small _ _ _
  have hot : ∀ c ∈ cmdsOf os 40 kindsL, c.other ∈ snpN := cmdsOf_other _ _ _
  generalize cmdsOf os 40 kindsL = cs at *
  rw [objectName_spec (by omega)]
  simp only [mst_, mst5_]
  have l2 := x2.1
  have low2 : ∀ j, ownOf a2 j → j < n2 := fun j hj => w2.low hj
  obtain ⟨five, h5c⟩ : ∃ five : List Cmd, five = [cU nS, cU nT, cS, cL, cF (objName x)] := ⟨_, rfl⟩
  have len5 : five.length = 5 := by rw [h5c]; rfl
  obtain ⟨h3, hh3⟩ : ∃ h3, h3 = (h2.put (n2 + 1) (some ⟨objN.map AV.str, 1, true⟩)).put (nx + 11) (some ⟨(five.map fun c => cmdV c 0 0 none none).flatten, 8, true⟩) := ⟨_, rfl⟩
  obtain ⟨n3, hn3⟩ : ∃ n3, n3 = n2 + 7 + pickK x 5 := ⟨_, rfl⟩
  have l3 : n2 + 7 ≤ n3 := by omega
  have b3 : h3 (nx + 11) = some ⟨(five.map fun c => cmdV c 0 0 none none).flatten, 8, true⟩ := by rw [hh3, put_same]
  have x3 : Frm (fun j => j = nx + 11) h2 n2 h3 n3 := by rw [hh3]; exact ((Frm.refl (fun j => j = nx + 11) h2 n2).put (.inr (by omega)) (by omega : n2 ≤ n2 + 7)).put (.inl rfl) (by omega)
  have hh3' : h3 = (h2.put (n2 + 1) (some ⟨objN.map AV.str, 1, true⟩)).put (nx + 11) (some ⟨[(.int .i64 10), (.str (ByteArray.mk #[])), (.str (ByteArray.mk #[115])), (.int .i64 0), (.int .i64 0), (.int .i64 0), (.int .i64 0), (.slice none 0 none), (.int .i64 10), (.str (ByteArray.mk #[])), (.str (ByteArray.mk #[116])), (.int .i64 0), (.int .i64 0), (.int .i64 0), (.int .i64 0), (.slice none 0 none), (.int .i64 7), (.str (ByteArray.mk #[])), (.str (ByteArray.mk #[115])), (.int .i64 0), (.int .i64 0), (.int .i64 0), (.int .i64 0), (.slice none 0 none), (.int .i64 6), (.str (ByteArray.mk #[])), (.str (ByteArray.mk #[])), (.int .i64 0), (.int .i64 0), (.int .i64 0), (.int .i64 0), (.slice none 0 none), (.int .i64 3), (.str (objName x)), (.str (ByteArray.mk #[])), (.int .i64 0), (.int .i64 2000), (.int .i64 0), (.int .i64 0), (.slice none 0 none)], 8, true⟩) := by rw [hh3, h5c]; rfl
  rw [← hh3', ← hn3]
  clear hh3 hh3' hn3
  have s3 : srcS h3 (some (nx + 11, 0)) 5 8 = _ := src_rows b3 (by rw [h5c]; rfl) (by decide)
  rw [s3]
  simp only [mst_, mst5_]
  obtain ⟨A, hA⟩ : ∃ A : Nat → Prop, A = fun j => ownOf a2 j ∨ j < n1 := ⟨_, rfl⟩
  have w3 : OwnRows (CmdR h3 n3 A) h3 n3 a2 8 cs := w2.go x3 (fun j hj q => by have := o2 j hj; omega) fun _ _ r => r.go x3 (fun j _ q => .inr (by unfold Old; omega)) fun j _ q => by rw [hA] at q; exact q
  obtain ⟨e4, f1, f2, f3, f4, f5⟩ := app_cmds (id := nx + 12) w3 (fun j hj => by rw [hA]; rcases hj with hj | rfl; exact .inl hj; exact .inr (by omega)) (nil_cmds h3 n3 A (l := five) (by rw [h5c]; intro c hc; simp only [List.mem_cons, List.not_mem_nil, or_false] at hc; rcases hc with rfl | rfl | rfl | rfl | rfl <;> rfl)) (fun q => by have := o2 _ q; omega) (by omega) c2 [nx + 11] (by omega)
  rw [len5] at f1
  rw [f1]
  simp only [mst_, mst5_]
  have hxx : Ext h nx (h3.puts e4.sets) n3 := ⟨by omega, fun i hi => by
    rw [f5.2 i (by omega) (fun q => by rcases q with q | q; have := o2 _ q; omega; omega), x3.2 i (by omega) (by omega), x2.2 i (by omega)]
    exact x1'.2 i hi⟩
  obtain ⟨h4, hh4⟩ : ∃ h4, h4 = (h3.puts e4.sets).put (n3 + 5) (some ⟨ints .i64 backKinds, 1, true⟩) := ⟨_, rfl⟩
  have hh4' : h4 = (h3.puts e4.sets).put (n3 + 5) (some ⟨[(.int .i64 1), (.int .i64 2), (.int .i64 4), (.int .i64 5), (.int .i64 12)], 1, true⟩) := hh4
  rw [← hh4']
  have b4 : h4 (n3 + 5) = some ⟨ints .i64 backKinds, 1, true⟩ := by rw [hh4, put_same]
  have x4 : Ext (h3.puts e4.sets) n3 h4 (n3 + 9) := by rw [hh4]; exact (Ext.refl _ _).put (by omega) (by omega)
  have w4 : OwnRows (CmdR h4 (n3 + 9) fun j => A j ∨ j = n3 + 7 ∨ j = n3 + 5) h4 (n3 + 9) e4.a 8 (cs ++ five) := f3.go (x4.fr fun _ => False) (fun _ _ q => q) fun _ _ r => r.go (x4.fr fun _ => False) (fun _ _ q => q.elim) fun j hj q => by
    rcases q with q | q
    · exact q
    · omega
  have xh4 : Ext h nx h4 (n3 + 9) := ⟨by omega, fun i hi => (x4.2 i (by omega)).trans (hxx.2 i hi)⟩
  clear hh4 hh4'
  have own4 : ∀ j, ownOf e4.a j → A j ∧ j < n3 := fun j hj => ⟨by rw [hA]; rcases f4 j hj with q | q; exact .inl q; exact .inr (by omega), f3.low hj⟩
  have sk4 : Sl h4 (n3 + 9) (some (n3 + 5, 0)) backKinds.length 1 (ints .i64 backKinds) := ⟨by simp [ints], fun j hj => ⟨(n3 + 5, 0), _, rfl, (show n3 + 5 < n3 + 9 by omega), b4, rfl, by simp [backKinds, ints], fun q hq => by simp [backKinds]⟩⟩
  obtain ⟨a5, c5, h5, n5, e5, x5, w5, o5⟩ := commands_spec2 (f := 9000) (by omega) Y0 none (goO rows2 xh4) (some 5) sk4 (by decide) 40 (by decide)
  have e5' : callP Try.prog keepT 9000 Y0 7 [.slice b os2.length none, .int .i64 40, .slice (some (n3 + 5, 0)) 5 (some 5)] h4 (n3 + 9) = some (.slice a5 (cmdsOf os2 40 backKinds).length c5, h5, n5) := e5
  rw [e5']
  simp only [mst_, mst5_]
  have hcl2 : (cmdsOf os2 40 backKinds).length ≤ 40 := cmdsOf_len _ _ _
  have hsm2 : Small (cmdsOf os2 40 backKinds) := cmdsOf_small _ _ _
  have hkd : ∀ c ∈ cmdsOf os2 40 backKinds, c.kind ≠ 7 ∧ c.kind ≠ 10 := fun c hc => by
    have := cmdsOf_kind os2 40 backKinds (by decide) c hc
    simp only [backKinds, List.mem_cons, List.not_mem_nil, or_false] at this
    omega
  generalize cmdsOf os2 40 backKinds = ds at *
  have l5 := x5.1
  obtain ⟨B, hB⟩ : ∃ B : Nat → Prop, B = fun j => A j ∨ j = n3 + 7 ∨ j = n3 + 5 := ⟨_, rfl⟩
  rw [← hB] at w4
  have hAn : ∀ j, A j → j < n3 := fun j q => by
    rw [hA] at q
    rcases q with q | q
    · have := low2 j q; omega
    · omega
  have hBn : ∀ j, B j → j < n3 + 9 := fun j q => by
    rw [hB] at q
    rcases q with q | q
    · have := hAn j q; omega
    · omega
  have w6 : OwnRows (CmdR h5 n5 B) h5 n5 e4.a 8 (cs ++ five) := w4.go (x5.fr fun _ => False) (fun _ _ q => q) fun _ _ r => r.go (x5.fr fun _ => False) (fun _ _ q => q.elim) fun _ _ q => q
  obtain ⟨rs5, q5, len5', s5, _⟩ := (w5.rows (A := fun _ => False) fun _ _ q => q)
  obtain ⟨rd5, src5⟩ := s5.src'
  rw [src5]
  simp only [mst_, mst5_]
  have q5' : All2 (CmdR h5 n5 B) ds rs5 := q5.mono fun _ _ r => r.go (Frm.refl (fun _ => False) h5 n5) (fun _ _ q => q.elim) fun j _ hj => .inr (hBn j hj)
  obtain ⟨e6, g1, g2, g3, g4, g5⟩ := app_cmds (id := n3 + 7) w6 (fun j hj => by rw [hB]; rcases hj with hj | rfl; exact .inl (own4 j hj).1; exact .inr (.inl rfl)) q5' (fun q => by have := (own4 _ q).2; omega) (by omega) e4.c rd5 (by simp; omega)
  rw [f2, g1]
  simp only [mst_, mst5_]
  rw [objectName_spec (by omega)]
  simp only [mst_, mst5_]
  obtain ⟨three, h3c⟩ : ∃ three : List Cmd, three = [cB, cL, cF (objName x)] := ⟨_, rfl⟩
  have len3 : three.length = 3 := by rw [h3c]; rfl
  obtain ⟨h7, hh7⟩ : ∃ h7, h7 = ((h5.puts e6.sets).put (n5 + 9 + 1) (some ⟨objN.map AV.str, 1, true⟩)).put (n5 + 6) (some ⟨(three.map fun c => cmdV c 0 0 none none).flatten, 8, true⟩) := ⟨_, rfl⟩
  obtain ⟨n7, hn7⟩ : ∃ n7, n7 = n5 + 9 + 7 + pickK x 5 := ⟨_, rfl⟩
  have l7 : n5 + 16 ≤ n7 := by omega
  have b7 : h7 (n5 + 6) = some ⟨(three.map fun c => cmdV c 0 0 none none).flatten, 8, true⟩ := by rw [hh7, put_same]
  have x7 : Ext (h5.puts e6.sets) n5 h7 n7 := by rw [hh7]; exact ((Ext.refl (h5.puts e6.sets) n5).put (by omega) (by omega : n5 ≤ n5 + 9)).put (by omega) (by omega)
  have hh7' : h7 = ((h5.puts e6.sets).put (n5 + 9 + 1) (some ⟨objN.map AV.str, 1, true⟩)).put (n5 + 6) (some ⟨[(.int .i64 9), (.str (ByteArray.mk #[])), (.str (ByteArray.mk #[115])), (.int .i64 0), (.int .i64 0), (.int .i64 0), (.int .i64 0), (.slice none 0 none), (.int .i64 6), (.str (ByteArray.mk #[])), (.str (ByteArray.mk #[])), (.int .i64 0), (.int .i64 0), (.int .i64 0), (.int .i64 0), (.slice none 0 none), (.int .i64 3), (.str (objName x)), (.str (ByteArray.mk #[])), (.int .i64 0), (.int .i64 2000), (.int .i64 0), (.int .i64 0), (.slice none 0 none)], 8, true⟩) := by rw [hh7, h3c]; rfl
  rw [← hh7', ← hn7]
  clear hh7 hh7' hn7
  have s7 : srcS h7 (some (n5 + 6, 0)) 3 8 = _ := src_rows b7 (by rw [h3c]; rfl) (by decide)
  rw [s7]
  simp only [mst_, mst5_]
  have low6 : ∀ j, ownOf e6.a j → B j := fun j hj => by
    rw [hB]
    rcases g4 j hj with q | q
    · exact .inl (own4 j q).1
    · exact .inr (.inl q)
  have w7 : OwnRows (CmdR h7 n7 fun j => B j ∨ j = n5 + 7) h7 n7 e6.a 8 (cs ++ five ++ ds) := g3.go (x7.fr fun _ => False) (fun _ _ q => q) fun _ _ r => r.go (x7.fr fun _ => False) (fun _ _ q => q.elim) fun j hj q => by
    rcases q with q | q
    · exact q
    · omega
  obtain ⟨e8, k1, k2, k3, k4, k5⟩ := app_cmds (id := n5 + 7) w7 (fun j hj => hj.elim (fun q => .inl (low6 j q)) .inr) (nil_cmds h7 n7 (fun j => B j ∨ j = n5 + 7) (l := three) (by rw [h3c]; intro c hc; simp only [List.mem_cons, List.not_mem_nil, or_false] at hc; rcases hc with rfl | rfl | rfl <;> rfl)) (fun q => by have := hBn _ (low6 _ q); omega) (by omega) e6.c [n5 + 6] (by simp; omega)
  rw [len3] at k1
  rw [g2, k1]
  simp only [mst_, mst5_]
  have nx8 : Frm (fun _ => False) (h7.puts e8.sets) n7 (h7.puts e8.sets) (n7 + 7) := ⟨by omega, fun _ _ _ => rfl⟩
  have rows8 : Rows (CmdR (h7.puts e8.sets) (n7 + 7) fun _ => False) (h7.puts e8.sets) (n7 + 7) (fun _ => False) e8.a 8 (cs ++ five ++ ds ++ three) := (k3.rows (A := fun _ => False) fun _ _ q => q).go nx8 (fun _ _ q => q) (fun _ _ q => q) fun _ _ r => r.go nx8 (fun _ _ q => q.elim) (fun _ _ q => q.elim)
  have hsm8 : Small (cs ++ five ++ ds ++ three) := fun c hc => by
    have hn := objName_size x
    simp only [List.mem_append] at hc
    rcases hc with ((hc | hc) | hc) | hc
    · exact hsm c hc
    · rw [h5c] at hc
      simp only [List.mem_cons, List.not_mem_nil, or_false] at hc
      rcases hc with rfl | rfl | rfl | rfl | rfl
      · exact ⟨by decide, by decide⟩
      · exact ⟨by decide, by decide⟩
      · exact ⟨by decide, by decide⟩
      · exact ⟨by decide, by decide⟩
      · exact ⟨by show (objName x).size ≤ 1000; omega, (show nE.size ≤ 1000 by decide)⟩
    · exact hsm2 c hc
    · rw [h3c] at hc
      simp only [List.mem_cons, List.not_mem_nil, or_false] at hc
      rcases hc with rfl | rfl | rfl
      · exact ⟨by decide, by decide⟩
      · exact ⟨by decide, by decide⟩
      · exact ⟨by show (objName x).size ≤ 1000; omega, (show nE.size ≤ 1000 by decide)⟩
  generalize h7.puts e8.sets = h8 at *
  have hT0 : playP s0 (cs ++ five ++ ds ++ three) = playP s0 cs ++ playP (endP s0 cs) ([cU nS, cU nT, cS, cL, cF (objName x)] ++ ds ++ [cB, cL, cF (objName x)]) := by
    rw [← playP_append, h5c, h3c]; simp
  obtain ⟨a9, c9, h9, n9, e9, x9, w9, _⟩ := pooled_spec (n := 9000) (by omega) Y0 e8.c rows8 (by simp; omega) hsm8
  rw [k2, e9]
  simp only [mst_, mst5_]
  obtain ⟨h10, n10, e10, x10⟩ := begun_spec (n := 9000) (by omega) Y0 h9 (n9 + 43)
  rw [e10]
  simp only [mst_, mst5_]
  have l10 := x10.1
  have x910 : Ext h9 n9 h10 n10 := ⟨by omega, fun i hi => x10.2 i (by omega)⟩
  have tr : Rows (ToldR h10 n10 fun _ => False) h10 n10 (fun _ => False) a9 5 (playP s0 (cs ++ five ++ ds ++ three)) := (w9.rows (A := fun _ => False) fun _ _ q => q).go (x910.fr fun _ => False) (fun _ _ q => q) (fun _ _ q => q) fun _ _ r => r.go (x910.fr fun _ => False) (fun _ _ q => q.elim) (fun _ _ q => q.elim)
  have oks := endP_ok cs s0_ok
  obtain ⟨t1, t2, mid, hb, hml⟩ := back_law (end_sn s0_sn hot) (objName x) hkd
  rw [hb] at hT0
  have ok1 := listT_ok oks
  have ok2 := getT_ok oks (objName x)
  have hPl : (playP s0 cs).length = cs.length := playP_len _ _
  rw [hT0] at tr ⊢
  generalize getT (endP s0 cs).obj (objName x) = tG at *
  generalize listT (endP s0 cs).obj = tL at *
  generalize playP s0 cs = P at *
  obtain ⟨T, hT⟩ : ∃ T, T = P ++ ([t1, t2, noT 0, tL, tG] ++ mid ++ [noT 0, tL, tG]) := ⟨_, rfl⟩
  rw [← hT] at tr ⊢
  have hl : T.length = P.length + mid.length + 8 := by rw [hT]; simp; omega
  have i1 : T[P.length + mid.length + 5]? = some (noT 0) := by
    rw [hT, List.getElem?_append_right (by omega), List.getElem?_append_right (by simp; omega)]
    simp
    rw [show P.length + mid.length + 5 - P.length - (mid.length + 1 + 1 + 1 + 1 + 1) = 0 from by omega]; rfl
  have i2 : T[P.length + 4]? = some tG := by rw [hT, List.getElem?_append_right (by omega), List.getElem?_append_left (by simp)]; simp
  have i3 : T[P.length + mid.length + 7]? = some tG := by
    rw [hT, List.getElem?_append_right (by omega), List.getElem?_append_right (by simp; omega)]
    simp
    rw [show P.length + mid.length + 7 - P.length - (mid.length + 1 + 1 + 1 + 1 + 1) = 2 from by omega]; rfl
  have i4 : T[P.length + 3]? = some tL := by rw [hT, List.getElem?_append_right (by omega), List.getElem?_append_left (by simp)]; simp
  have i5 : T[P.length + mid.length + 6]? = some tL := by
    rw [hT, List.getElem?_append_right (by omega), List.getElem?_append_right (by simp; omega)]
    simp
    rw [show P.length + mid.length + 6 - P.length - (mid.length + 1 + 1 + 1 + 1 + 1) = 1 from by omega]; rfl
  have v1 : wrapA .i64 (((T.length : Nat) : Int) - 3) = ((P.length + mid.length + 5 : Nat) : Int) := by rw [wA (by omega) (by omega)]; omega
  have v3 : wrapA .i64 (((T.length : Nat) : Int) - 1) = ((P.length + mid.length + 7 : Nat) : Int) := by rw [wA (by omega) (by omega)]; omega
  have v5 : wrapA .i64 (((T.length : Nat) : Int) - 2) = ((P.length + mid.length + 6 : Nat) : Int) := by rw [wA (by omega) (by omega)]; omega
  have hcf : (cs ++ five).length = P.length + 5 := by rw [List.length_append, len5, hPl]
  have v2 : wrapA .i64 ((((cs ++ five).length : Nat) : Int) - 1) = ((P.length + 4 : Nat) : Int) := by rw [hcf, wA (by omega) (by omega)]; omega
  have v4 : wrapA .i64 ((((cs ++ five).length : Nat) : Int) - 2) = ((P.length + 3 : Nat) : Int) := by rw [hcf, wA (by omega) (by omega)]; omega
  rw [v1, v2, v3, v4, v5]
  obtain ⟨r1, ⟨d1, u1, hr1, _, _⟩, _, rd1⟩ := tr.read0 (R := AV × AHeap × Nat) i1 (by decide)
  rw [rd1 (.int .i64 0) _ (by rw [hr1]; rfl)]
  simp only [mst_, mst5_]
  rw [if_pos (by decide)]
  obtain ⟨r2, q2, _, rd2, _⟩ := tr.read (R := AV × AHeap × Nat) i2
  rw [rd2]
  have q2' := q2
  obtain ⟨_, _, rfl, ⟨_, _, rfl, _, _⟩, ⟨_, _, rfl, _⟩⟩ := q2
  simp only [mst_, mst5_]
  obtain ⟨r3, q3, _, rd3, _⟩ := tr.read (R := AV × AHeap × Nat) i3
  rw [rd3]
  have q3' := q3
  obtain ⟨_, _, rfl, ⟨_, _, rfl, _, _⟩, ⟨_, _, rfl, _⟩⟩ := q3
  simp only [mst_, mst5_]
  obtain ⟨h11, n11, e11, x11⟩ := same_told (n := 9000) (by omega) Y0 q2' q3' ok2.1 ok2.2
  rw [e11]
  simp only [mst_, mst5_]
  have tr2 : Rows (ToldR h11 n11 fun _ => False) h11 n11 (fun _ => False) a9 5 T := tr.go (x11.fr fun _ => False) (fun _ _ q => q) (fun _ _ q => q) fun _ _ r => r.go (x11.fr fun _ => False) (fun _ _ q => q.elim) (fun _ _ q => q.elim)
  obtain ⟨r4, q4, _, rd4, _⟩ := tr2.read (R := AV × AHeap × Nat) i4
  rw [rd4]
  have q4' := q4
  obtain ⟨_, _, rfl, ⟨_, _, rfl, _, _⟩, ⟨_, _, rfl, _⟩⟩ := q4
  simp only [mst_, mst5_]
  obtain ⟨r5, q5, _, rd5, _⟩ := tr2.read (R := AV × AHeap × Nat) i5
  rw [rd5]
  have q5' := q5
  obtain ⟨_, _, rfl, ⟨_, _, rfl, _, _⟩, ⟨_, _, rfl, _⟩⟩ := q5
  simp only [mst_, mst5_]
  obtain ⟨h12, n12, e12, x12⟩ := same_told (n := 9000) (by omega) Y0 q4' q5' ok1.1 ok1.2
  rw [e12]
  simp only [mst_, mst5_]
  exact ⟨_, _, rfl⟩
end Go.Proofs.Ytncmdbpoceilgaa.T
