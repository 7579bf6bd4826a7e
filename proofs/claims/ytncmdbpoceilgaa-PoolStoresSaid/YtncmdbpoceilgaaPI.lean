/- Pools: PoolStores, the walk. -/
import Derived.Test.YtncmdbpoceilgaaPH
set_option linter.unusedVariables false
set_option linter.unusedSimpArgs false
namespace Go.Proofs.Ytncmdbpoceilgaa.T
open Go Go.RowKit Go.Proofs
set_option maxRecDepth 10000

theorem stores_j1 {n lf : Nat} (hlf : 3000 ≤ lf) (Y : YldF) {h : AHeap} {nx : Nat} {da ta : Option (Nat × Nat)} (dc tc : Option Nat) {d : List Int} {o : Nat} (sd : Sl h nx da d.length 1 (ints .u8 d)) (hd : 1 ≤ d.length ∧ d.length ≤ 400) (ho : o + d.length ≤ 1024) {T P : List Tld} {t1 t2 t3 : Tld} (hT : T = P ++ [t1, t2, t3]) (hP : P.length ≤ 1000)
    (tr : Rows (ToldR h nx fun _ => False) h nx (fun _ => False) ta 5 T)
    (cs : (t1 = noT 6 ∧ t2 = noT 6 ∧ t3 = noT 6) ∨ ∃ x : List Int, x.length ≤ 1024 ∧ t1 = ⟨0, x.length, x, []⟩ ∧ t2 = ⟨0, (writeP x o d).length, [], []⟩ ∧ t3 = ⟨0, (writeP x o d).length, writeP x o d, []⟩) :
    ∃ h' nx', F5_J1 (callP Try.prog keepT n) Y lf da d.length dc (o : Int) ta T.length tc h nx = some (.bool true, h', nx') := by
  have hl : T.length = P.length + 3 := by rw [hT]; simp
  have g1 : T[P.length]? = some t1 := by rw [hT]; simp
  have g2 : T[P.length + 1]? = some t2 := by rw [hT, List.getElem?_append_right (by omega)]; simp
  have g3 : T[P.length + 2]? = some t3 := by rw [hT, List.getElem?_append_right (by omega)]; simp
  have w1 : wrapA .i64 (((T.length : Nat) : Int) - 3) = ((P.length : Nat) : Int) := by rw [wA (by omega) (by omega)]; omega
  have w2 : wrapA .i64 (((T.length : Nat) : Int) - 2) = ((P.length + 1 : Nat) : Int) := by rw [wA (by omega) (by omega)]; omega
  have w3 : wrapA .i64 (((T.length : Nat) : Int) - 1) = ((P.length + 2 : Nat) : Int) := by rw [wA (by omega) (by omega)]; omega
  rw [F5_J1_eq, w1, w2, w3]
  dsimp only
  have go : ∀ {h' : AHeap} {n' : Nat}, Ext h nx h' n' → Rows (ToldR h' n' fun _ => False) h' n' (fun _ => False) ta 5 T := fun x => tr.go (x.fr fun _ => False) (fun _ _ q => q.elim) (fun _ _ q => q.elim) fun _ _ r => r.go (x.fr fun _ => False) (fun _ _ q => q.elim) (fun _ _ q => q.elim)
  obtain ⟨r1, ⟨_, _, rfl, ⟨d1, dc1, rfl, sd1, _⟩, ⟨u1, uc1, rfl, _⟩⟩, _, rd1, _⟩ := tr.read (R := AV × AHeap × Nat) g1
  rw [rd1]
  simp only [mst_, mst5_]
  rw [st_all (put_same _ _ _) (by simp) (by simp) (by simp [allOne, AV.one]), put_put]
  obtain ⟨h1, hh1⟩ : ∃ h1, h1 = h.put (nx + 6) (some ⟨[AV.int .i64 t1.code, .bool false, .int .i64 t1.size, .slice d1 t1.data.length dc1, .slice u1 t1.names.length uc1], 5, true⟩) := ⟨_, rfl⟩
  rw [← hh1]
  have x1 : Ext h nx h1 (nx + 7) := by rw [hh1]; exact (Ext.refl h nx).put (by omega) (by omega)
  have b1 : h1 (nx + 6) = some ⟨[AV.int .i64 t1.code, .bool false, .int .i64 t1.size, .slice d1 t1.data.length dc1, .slice u1 t1.names.length uc1], 5, true⟩ := by rw [hh1, put_same]
  clear hh1
  obtain ⟨r2, ⟨_, _, rfl, ⟨d2, dc2, rfl, sd2, _⟩, ⟨u2, uc2, rfl, _⟩⟩, _, rd2, _⟩ := (go x1).read (R := AV × AHeap × Nat) g2
  rw [rd2]
  simp only [mst_, mst5_]
  rw [st_all (put_same _ _ _) (by simp) (by simp) (by simp [allOne, AV.one]), put_put]
  obtain ⟨h2, hh2⟩ : ∃ h2, h2 = h1.put (nx + 14) (some ⟨[AV.int .i64 t2.code, .bool false, .int .i64 t2.size, .slice d2 t2.data.length dc2, .slice u2 t2.names.length uc2], 5, true⟩) := ⟨_, rfl⟩
  rw [← hh2]
  have x2 : Ext h nx h2 (nx + 15) := by rw [hh2]; exact x1.put (by omega) (by omega)
  have b12 : h2 (nx + 6) = some ⟨[AV.int .i64 t1.code, .bool false, .int .i64 t1.size, .slice d1 t1.data.length dc1, .slice u1 t1.names.length uc1], 5, true⟩ := by rw [hh2, put_ne (by omega)]; exact b1
  have b2 : h2 (nx + 14) = some ⟨[AV.int .i64 t2.code, .bool false, .int .i64 t2.size, .slice d2 t2.data.length dc2, .slice u2 t2.names.length uc2], 5, true⟩ := by rw [hh2, put_same]
  clear hh2
  obtain ⟨r3, ⟨_, _, rfl, ⟨d3, dc3, rfl, sd3, _⟩, ⟨u3, uc3, rfl, _⟩⟩, _, rd3, _⟩ := (go x2).read (R := AV × AHeap × Nat) g3
  rw [rd3]
  simp only [mst_, mst5_]
  rw [st_all (put_same _ _ _) (by simp) (by simp) (by simp [allOne, AV.one]), put_put]
  obtain ⟨h3, hh3⟩ : ∃ h3, h3 = h2.put (nx + 22) (some ⟨[AV.int .i64 t3.code, .bool false, .int .i64 t3.size, .slice d3 t3.data.length dc3, .slice u3 t3.names.length uc3], 5, true⟩) := ⟨_, rfl⟩
  rw [← hh3]
  have x3 : Ext h nx h3 (nx + 23) := by rw [hh3]; exact x2.put (by omega) (by omega)
  have b13 : h3 (nx + 6) = some ⟨[AV.int .i64 t1.code, .bool false, .int .i64 t1.size, .slice d1 t1.data.length dc1, .slice u1 t1.names.length uc1], 5, true⟩ := by rw [hh3, put_ne (by omega)]; exact b12
  have b23 : h3 (nx + 14) = some ⟨[AV.int .i64 t2.code, .bool false, .int .i64 t2.size, .slice d2 t2.data.length dc2, .slice u2 t2.names.length uc2], 5, true⟩ := by rw [hh3, put_ne (by omega)]; exact b2
  have b33 : h3 (nx + 22) = some ⟨[AV.int .i64 t3.code, .bool false, .int .i64 t3.size, .slice d3 t3.data.length dc3, .slice u3 t3.names.length uc3], 5, true⟩ := by rw [hh3, put_same]
  have e23 : Ext h2 (nx + 15) h3 (nx + 23) := by rw [hh3]; exact (Ext.refl _ _).put (by omega) (by omega)
  clear hh3
  rw [ld_at b13 (show _ = some (AV.int .i64 t1.code) from rfl)]
  simp only [mst_, mst5_]
  rcases cs with ⟨rfl, rfl, rfl⟩ | ⟨x, hx, rfl, rfl, rfl⟩
  · rw [if_pos (by decide), ld_at b13 (show _ = some (AV.int .i64 6) from rfl)]
    simp only [mst_, mst5_]
    rw [if_pos (by decide), ld_at b23 (show _ = some (AV.int .i64 6) from rfl)]
    simp only [mst_, mst5_]
    rw [if_pos (by decide), ld_at b33 (show _ = some (AV.int .i64 6) from rfl)]
    simp only [mst_, mst5_]
    exact ⟨_, _, rfl⟩
  · have hyl := writeP_len x o d
    rw [if_neg (by simp), ld_at b23 (show _ = some (AV.int .i64 0) from rfl)]
    simp only [mst_, mst5_]
    rw [if_neg (by simp), ld_at b33 (show _ = some (AV.slice d3 (writeP x o d).length dc3) from rfl)]
    simp only [mst_, mst5_]
    rw [ld_at b13 (show _ = some (AV.slice d1 x.length dc1) from rfl)]
    simp only [mst_, mst5_]
    rw [wA (x := (o : Int) + ((d.length : Nat) : Int)) (by omega) (by omega)]
    rw [show (if (o : Int) + ((d.length : Nat) : Int) > ((x.length : Nat) : Int) then (o : Int) + ((d.length : Nat) : Int) else ((x.length : Nat) : Int)) = (((writeP x o d).length : Nat) : Int) from by rw [hyl]; split <;> omega]
    rw [if_neg (by simp), ld_at b23 (show _ = some (AV.int .i64 (((writeP x o d).length : Nat) : Int)) from rfl)]
    simp only [mst_, mst5_]
    rw [ld_at b33 (show _ = some (AV.slice d3 (writeP x o d).length dc3) from rfl)]
    simp only [mst_, mst5_]
    rw [if_neg (by simp), ld_at b33 (show _ = some (AV.int .i64 (((writeP x o d).length : Nat) : Int)) from rfl)]
    simp only [mst_, mst5_]
    rw [ld_at b33 (show _ = some (AV.slice d3 (writeP x o d).length dc3) from rfl)]
    simp only [mst_, mst5_]
    rw [if_neg (by simp), F5_J2_eq]
    obtain ⟨nx', e⟩ := stores_loop (n := n) (lf := lf) (x := x) (d := d) (o := o) Y dc (sd.ext (x3.le (Nat.le_refl _))) ((sd1.ext x3)) (sd3.ext e23) hd ho hx b13 b33 (writeP x o d).length lf 0 (nx + 60 + 1) (by omega) (by omega)
    exact ⟨_, _, e⟩

theorem PoolStores_run (h : AHeap) (nx : Nat) (a : Option (Nat × Nat)) (cells : List (List AV)) (_ : cells.length * 64 ≤ 140737488351232) (each : ∀ c ∈ cells, Ty h nx OrdSh c) (sl : Sl h nx a cells.length OrdSh.n cells.flatten) (x : Int) (_ : (Lit.int .i64 x).wf = true) (y : Int) (_ : (Lit.int .i64 y).wf = true)
    (L : List Int) (_ : L.length * 1 ≤ 140737488351232) (_ : ∀ n ∈ L, (Lit.int .u8 n).wf = true) (b : Option (Nat × Nat)) (sb : Sl h nx b L.length 1 (L.map (AV.int .u8))) :
    ∃ f h' nx', callP Try.prog keepT f Y0 5 [.slice a cells.length none, .int .i64 x, .int .i64 y, .slice b L.length none] h nx = some (.bool true, h', nx') := by
  obtain ⟨os, hol, rows⟩ := ord_rows each sl
  rw [← hol]
  refine ⟨9001, ?_⟩
  rw [F5_eq]
  obtain ⟨h1, n1, e1, x1, b1, l1⟩ := kinds_spec (f := 9000) (by omega) Y0 h (nx + 5)
  rw [e1]
  simp only [mst_, mst5_]
  have x1' : Ext h nx h1 n1 := ⟨by have := x1.1; omega, fun i hi => x1.2 i (by omega)⟩
  have rows1 : Rows (OrdR h1 n1 fun _ => False) h1 n1 (fun _ => False) a 6 os := rows.go (x1'.fr fun _ => False) (fun _ _ q => q.elim) (fun _ _ q => q) fun _ _ r => r.go (x1'.fr fun _ => False) (fun _ _ q => q.elim) (fun _ _ q => q)
  have sk : Sl h1 n1 (some (nx + 5 + 1, 0)) kindsL.length 1 (ints .i64 kindsL) := ⟨by simp [ints], fun j hj => ⟨(nx + 5 + 1, 0), _, rfl, l1, b1, rfl, by simp [kindsL, ints], fun q hq => by simp [kindsL]⟩⟩
  obtain ⟨a2, c2, h2, n2, e2, x2, w2, o2⟩ := commands_spec (f := 9000) (by omega) Y0 none rows1 (some 22) sk (by decide) 40 (by decide)
  have e2' : callP Try.prog keepT 9000 Y0 7 [.slice a os.length none, .int .i64 40, .slice (some (nx + 5 + 1, 0)) 22 (some 22)] h1 n1 = some (.slice a2 (cmdsOf os 40 kindsL).length c2, h2, n2) := e2
  rw [e2']
  simp only [mst_, mst5_]
  have hcl : (cmdsOf os 40 kindsL).length ≤ 40 := cmdsOf_len _ _ _
  have hsm : Small (cmdsOf os 40 kindsL) := cmdsOf_small _ _ _
  generalize cmdsOf os 40 kindsL = cs at *
  rw [objectName_spec (by omega)]
  simp only [mst_, mst5_]
  have l2 := x2.1
  obtain ⟨h3, hh3⟩ : ∃ h3, h3 = h2.put (n2 + 3 + 1) (some ⟨objN.map AV.str, 1, true⟩) := ⟨_, rfl⟩
  obtain ⟨n3, hn3⟩ : ∃ n3, n3 = n2 + 3 + 7 + pickK x 5 + 3 := ⟨_, rfl⟩
  have x3 : Ext h2 n2 h3 n3 := by rw [hh3]; exact (Ext.refl h2 n2).put (by omega) (by omega)
  rw [← hh3, ← hn3]
  clear hh3 hn3
  have l3 := x3.1
  have x03 : Ext h nx h3 n3 := ⟨by have := x1'.1; omega, fun i hi => by have := x1'.1; rw [x3.2 i (by omega), x2.2 i (by omega)]; exact x1'.2 i hi⟩
  obtain ⟨v, h4, n4, e4, x4, ⟨da, dc, rfl, sd, sv⟩⟩ := block_spec (f := 9000) (by omega) Y0 none (sb.ext x03) (n := 400) (by omega)
  rw [show ((400 : Nat) : Int) = 400 from rfl] at e4
  rw [e4]
  simp only [mst_, mst5_]
  have hd : 1 ≤ (blockP L 400).length ∧ (blockP L 400).length ≤ 400 := by
    unfold blockP
    split
    · simp
    · simp; omega
  generalize blockP L 400 = d at *
  have hw : wrapA .i64 (wrapA .i64 (1024 - ((d.length : Nat) : Int)) + 1) = ((1025 - d.length : Nat) : Int) := by rw [wA (x := 1024 - ((d.length : Nat) : Int)) (by omega) (by omega), wA (by omega) (by omega)]; omega
  rw [hw, picked_spec (by omega) Y0 y ((1025 - d.length : Nat) : Int) (by omega) (by omega)]
  simp only [mst_, mst5_]
  obtain ⟨p1, p2⟩ := pickL_bounds y ((1025 - d.length : Nat) : Int) (by omega)
  obtain ⟨o, ho⟩ : ∃ o : Nat, pickL y ((1025 - d.length : Nat) : Int) = (o : Int) := ⟨(pickL y ((1025 - d.length : Nat) : Int)).toNat, by omega⟩
  rw [ho] at p1 p2 ⊢
  have l4 := x4.1
  obtain ⟨n5, hn5⟩ : ∃ n5, n5 = n4 + 7 + pickK y ((1025 - d.length : Nat) : Int) := ⟨_, rfl⟩
  rw [← hn5]
  have ln5 : n4 ≤ n5 := by omega
  clear hn5
  have x24 : Ext h2 n2 h4 n4 := ⟨by omega, fun i hi => (x4.2 i (by omega)).trans (x3.2 i hi)⟩
  obtain ⟨three, h3c⟩ : ∃ three : List Cmd, three = [⟨3, objName x, nE, 0, 2000, []⟩, ⟨2, objName x, nE, (o : Int), 0, d⟩, ⟨3, objName x, nE, 0, 2000, []⟩] := ⟨_, rfl⟩
  obtain ⟨r3, hr3⟩ : ∃ r3 : List (List AV), r3 = [cmdV ⟨3, objName x, nE, 0, 2000, []⟩ 0 0 none none, cmdV ⟨2, objName x, nE, (o : Int), 0, d⟩ 0 0 da dc, cmdV ⟨3, objName x, nE, 0, 2000, []⟩ 0 0 none none] := ⟨_, rfl⟩
  have len3 : ∀ r ∈ r3, r.length = 8 := fun r hr => by rw [hr3] at hr; simp only [List.mem_cons, List.not_mem_nil, or_false] at hr; rcases hr with rfl | rfl | rfl <;> rfl
  obtain ⟨h5, hh5⟩ : ∃ h5, h5 = h4.put (n5 + 9) (some ⟨r3.flatten, 8, true⟩) := ⟨_, rfl⟩
  have x5 : Ext h4 n4 h5 (n5 + 10) := by rw [hh5]; exact (Ext.refl h4 n4).put (by omega) (by omega)
  have hB : ∀ (A : Nat → Prop), (∀ j, A j → j < n3 ∨ n4 ≤ j) → All2 (CmdR h5 (n5 + 10) A) three r3 := fun A hA => by
    rw [h3c, hr3]
    have nil : ∀ c : Cmd, c.data = [] → CmdR h5 (n5 + 10) A c (cmdV c 0 0 none none) := fun c hc => ⟨0, 0, none, none, rfl, by rw [hc]; exact ⟨rfl, fun j hj => by simp at hj⟩, by rw [hc]; exact Av.none⟩
    refine ⟨_, _, rfl, nil _ rfl, _, _, rfl, ⟨0, 0, da, dc, rfl, sd.ext x5, sv.go sd fun j hj q => ?_⟩, _, _, rfl, nil _ rfl, rfl⟩
    unfold Old
    rcases hA j q with q | q <;> omega
  have hb5 : h5 (n5 + 9) = some ⟨r3.flatten, 8, true⟩ := by rw [hh5, put_same]
  have hfl : r3.flatten.length = 24 := by rw [flat_len len3, hr3]; rfl
  have hsrc : srcS h5 (some (n5 + 9, 0)) 3 8 = some (3, r3.flatten, [n5 + 9]) := by
    unfold srcS
    simp only
    rw [if_neg (by decide), hb5, some_bind, if_pos (by simp [hfl]), List.drop_zero, List.take_of_length_le (by rw [hfl]; decide)]
  have hh5' : h5 = h4.put (n5 + 9) (some ⟨[(.int .i64 3), (.str (objName x)), (.str (ByteArray.mk #[])), (.int .i64 0), (.int .i64 2000), (.int .i64 0), (.int .i64 0), (.slice none 0 none), (.int .i64 2), (.str (objName x)), (.str (ByteArray.mk #[])), (.int .i64 (o : Int)), (.int .i64 0), (.int .i64 0), (.int .i64 0), (.slice da d.length dc), (.int .i64 3), (.str (objName x)), (.str (ByteArray.mk #[])), (.int .i64 0), (.int .i64 2000), (.int .i64 0), (.int .i64 0), (.slice none 0 none)], 8, true⟩) := by rw [hh5, hr3]; rfl
  rw [← hh5', hsrc]
  simp only [mst_, mst5_]
  obtain ⟨A, hAd⟩ : ∃ A : Nat → Prop, A = fun j => ownOf a2 j ∨ j = n5 + 10 := ⟨_, rfl⟩
  have low2 : ∀ j, ownOf a2 j → j < n2 := fun j hj => w2.low hj
  have x25 : Ext h2 n2 h5 (n5 + 10) := ⟨by omega, fun i hi => (x5.2 i (by omega)).trans (x24.2 i hi)⟩
  have w5 : OwnRows (CmdR h5 (n5 + 10) A) h5 (n5 + 10) a2 8 cs := w2.go (x25.fr fun _ => False) (fun _ _ q => q) fun _ _ r => r.go (x25.fr fun _ => False) (fun _ _ q => q.elim) fun j hj q => by
    rw [hAd] at q
    rcases q with q | q
    · exact q
    · omega
  have three_len : three.length = 3 := by rw [h3c]; rfl
  obtain ⟨e, f1, f2, f3, f4, _⟩ := w5.many c2 (bytes := 96) (id := n5 + 10) (rd := [n5 + 9]) (hB A (fun j q => by
    rw [hAd] at q
    rcases q with q | q
    · have := low2 j q; omega
    · omega)) len3 (by rw [h3c]; simp) (growOk_of (by omega) (by omega)) (Nat.le_refl _)
  rw [three_len] at f1
  rw [f1]
  simp only [mst_, mst5_]
  have ff : Frm A h5 (n5 + 10) (h5.puts e.sets) (n5 + 19) := ⟨by omega, fun i hi hn => puts_get _ _ fun hm => hn (by rw [hAd]; exact f4 i hm)⟩
  have rows6 : Rows (CmdR (h5.puts e.sets) (n5 + 19) fun _ => False) (h5.puts e.sets) (n5 + 19) (fun _ => False) e.a 8 (cs ++ three) := (f3.rows (A := fun _ => False) fun _ _ q => q).go (D := fun _ => False) ⟨by omega, fun _ _ _ => rfl⟩ (fun _ _ q => q) (fun _ _ q => q) fun _ _ r => r.go ff (fun _ _ q => q) (fun _ _ q => q.elim)
  have svA : Av A da d.length := sv.go sd fun j hj q => by
    rw [hAd] at q
    unfold Old
    rcases q with q | q
    · have := low2 j q; omega
    · omega
  have sd6 : Sl (h5.puts e.sets) (n5 + 19) da d.length 1 (ints .u8 d) := (sd.ext x5).fr svA ff
  have hsm2 : Small (cs ++ three) := fun c hc => by
    rcases List.mem_append.1 hc with hc | hc
    · exact hsm c hc
    · have h2 := objName_size x
      rw [h3c] at hc
      simp only [List.mem_cons, List.not_mem_nil, or_false] at hc
      rcases hc with rfl | rfl | rfl <;> exact ⟨by show (objName x).size ≤ 1000; omega, (show nE.size ≤ 1000 by decide)⟩
  generalize h5.puts e.sets = h6 at *
  obtain ⟨a7, c7, h7, n7, e7, x7, w7, _⟩ := pooled_spec (n := 9000) (by omega) Y0 e.c rows6 (by simp; omega) hsm2
  rw [f2, e7]
  simp only [mst_, mst5_]
  obtain ⟨h8, n8, e8, x8⟩ := begun_spec (n := 9000) (by omega) Y0 h7 (n7 + 6)
  rw [e8]
  simp only [mst_, mst5_]
  have l7 := x7.1; have l8 := x8.1
  have x78 : Ext h7 n7 h8 n8 := ⟨by omega, fun i hi => x8.2 i (by omega)⟩
  have x68 : Ext h6 (n5 + 19) h8 n8 := ⟨by omega, fun i hi => (x8.2 i (by omega)).trans (x7.2 i hi)⟩
  have tr : Rows (ToldR h8 n8 fun _ => False) h8 n8 (fun _ => False) a7 5 (playP s0 (cs ++ three)) := (w7.rows (A := fun _ => False) fun _ _ q => q).go (x78.fr fun _ => False) (fun _ _ q => q) (fun _ _ q => q) fun _ _ r => r.go (x78.fr fun _ => False) (fun _ _ q => q.elim) (fun _ _ q => q.elim)
  have oks := endP_ok cs s0_ok
  obtain ⟨st1, st2⟩ := stores oks (objName x) d o hd (by omega)
  have hpa := playP_append cs three s0
  have hpl : (playP s0 cs).length ≤ 1000 := by rw [playP_len]; omega
  cases hg : getO (objName x) (endP s0 cs).obj with
  | none =>
    have hT : playP s0 (cs ++ three) = playP s0 cs ++ [noT 6, noT 6, noT 6] := by rw [hpa, h3c, st1 hg]
    exact stores_j1 (by omega) Y0 dc c7 (sd6.ext x68) hd (by omega) hT hpl tr (.inl ⟨rfl, rfl, rfl⟩)
  | some z =>
    have hT : playP s0 (cs ++ three) = playP s0 cs ++ [⟨0, z.length, z, []⟩, ⟨0, (writeP z o d).length, [], []⟩, ⟨0, (writeP z o d).length, writeP z o d, []⟩] := by rw [hpa, h3c, st2 z hg]
    exact stores_j1 (by omega) Y0 dc c7 (sd6.ext x68) hd (by omega) hT hpl tr (.inr ⟨z, (oks.obj _ (getO_mem hg)).2, rfl, rfl, rfl⟩)
end Go.Proofs.Ytncmdbpoceilgaa.T
