/- GiveBack: the run. -/
import Derived.Test.YtbekpkapkaifiaaE23
set_option linter.unusedVariables false
set_option linter.unusedSimpArgs false
namespace Go.Proofs.Ytbekpkapkaifiaa.T
open Go Go.RowKit Go.Proofs

theorem src_litk {h : AHeap} {id es k : Nat} {ws : List AV} (hk : k ≠ 0) (hw : ws.length = k * es) : srcS (h.put id (some ⟨ws, es, true⟩)) (some (id, 0)) k es = some (k, ws, [id]) := by
  simp [srcS, hw, hk]; rw [← hw]; simp
theorem gives_log : ∀ {ds : List Deed} {s : SP}, (∀ d ∈ ds, d.k = 2) → (stP s ds).log = s.log
  | [], s, _ => rfl
  | d :: ds, s, h => by
    show (stP (doS s d).1 ds).log = s.log
    rw [gives_log (fun x hx => h x (List.mem_cons_of_mem _ hx))]
    have hd := h d List.mem_cons_self
    unfold doS
    rw [if_neg (by omega), if_pos hd]
    simp only
    unfold giveS
    split
    · rfl
    · split <;> rfl
theorem givesL_two (u : List Int) (k : Nat) : ∀ d ∈ givesL u k, d.k = 2 := fun d hd => by
  obtain ⟨i, _, rfl⟩ := List.mem_map.1 hd; rfl
theorem givesL_len (u : List Int) (k : Nat) : (givesL u k).length ≤ k := by
  unfold givesL
  rw [List.length_map]
  have := List.length_filter_le (fun i => tkn (u.getD i 0)) (List.range k)
  rwa [List.length_range] at this

theorem gives_loop {f N : Nat} (hf : 6000 ≤ f) (hN : N ≤ 100) (h1N : 1 ≤ N) {Y : YldF} {zb : Nat} {zc' : Bool} {ds : List Deed} (hds : ds.length ≤ 40) {h0 : AHeap} {n0 : Nat} (hz : zb < n0) (hv0 : h0 zb = some ⟨boolsC ((stP (freshS N) ds).u.map tkn), 1, true⟩) (d : Nat) :
    ∀ (lf k : Nat) (oc : Bool) (oa : Option (Nat × Nat)) (h : AHeap) (nx : Nat), k + d = N → d < lf → n0 ≤ nx → h zb = h0 zb → OwnRows DdR h nx oa 3 (ds ++ givesL (stP (freshS N) ds).u k) → (∀ i, ownOf oa i → i ≠ zb) →
      OkT (F12_L3 (callP Try.prog keepT f) Y f lf (N : Int) (some (zb, 0)) N zc' oa (ds ++ givesL (stP (freshS N) ds).u k).length oc (k : Int) h nx) := by
  have sok : Sok N (stP (freshS N) ds) := stP_ok (freshS_ok N)
  have lok : LogOk N (stP (freshS N) ds) := stP_log (freshS_ok N) (freshS_log N)
  have hlg := stP_loglen (ds := ds) (freshS_ok N)
  rw [show (freshS N).log.length = 0 from rfl] at hlg
  have hmul := Nat.mul_le_mul hds (show N + 2 ≤ 102 by omega)
  induction d with
  | zero =>
    intro lf k oc oa h nx e hlf hn hv ow oA
    obtain ⟨lf, rfl⟩ : ∃ m, lf = m + 1 := ⟨lf - 1, by omega⟩
    obtain rfl : k = N := by omega
    have gl := givesL_len (stP (freshS k) ds).u k
    have hfree := given_free sok
    have hglog := gives_log (s := stP (freshS k) ds) (givesL_two (stP (freshS k) ds).u k)
    have hall : stP (freshS k) ((ds ++ givesL (stP (freshS k) ds).u k) ++ [⟨3, 0, 0⟩, ⟨3, 0, 0⟩]) = stP (stP (freshS k) ds) (givesL (stP (freshS k) ds).u k ++ [⟨3, 0, 0⟩, ⟨3, 0, 0⟩]) := by rw [List.append_assoc, stP_app]
    have sok2 : Sok k (stP (stP (freshS k) ds) (givesL (stP (freshS k) ds).u k ++ [⟨3, 0, 0⟩, ⟨3, 0, 0⟩])) := stP_ok sok
    have lok2 : LogOk k (stP (stP (freshS k) ds) (givesL (stP (freshS k) ds).u k ++ [⟨3, 0, 0⟩, ⟨3, 0, 0⟩])) := stP_log sok lok
    have llen2 : (stP (stP (freshS k) ds) (givesL (stP (freshS k) ds).u k ++ [⟨3, 0, 0⟩, ⟨3, 0, 0⟩])).log.length ≤ 4096 := by
      rw [stP_app]
      have := stP_loglen (ds := [⟨3, 0, 0⟩, ⟨3, 0, 0⟩]) (stP_ok (ds := givesL (stP (freshS k) ds).u k) sok)
      rw [hglog] at this
      simp only [List.length_cons, List.length_nil] at this
      omega
    rw [← hall] at hfree sok2 lok2 llen2
    generalize hgen : ds ++ givesL (stP (freshS k) ds).u k = L at *
    have hLl : L.length ≤ 140 := by rw [← hgen]; simp; omega
    clear hgen hglog
    rw [F12_L3_eq, if_neg (by rw [decide_eq_true_eq]; omega)]
    dsimp only
    have x1 : Ext h nx (h.put (nx + 6) (some ⟨[.int .i64 3, .int .i64 0, .int .i64 0, .int .i64 3, .int .i64 0, .int .i64 0], 3, true⟩)) (nx + 7) := ⟨by omega, fun i hi => put_ne (by omega)⟩
    have hsrc := src_litk (h := h) (id := nx + 6) (es := 3) (k := 2) (ws := [.int .i64 3, .int .i64 0, .int .i64 0, .int .i64 3, .int .i64 0, .int .i64 0]) (by omega) rfl
    generalize h.put (nx + 6) (some ⟨[.int .i64 3, .int .i64 0, .int .i64 0, .int .i64 3, .int .i64 0, .int .i64 0], 3, true⟩) = h1 at *
    rw [hsrc]
    simp only [bind_some', asI_int, asB_bool, asStr_str, asP_ptr, asSl_sl, asAgg_1, asAgg_2, asAgg_3, asAgg_4, asTup_0, asTup_2, asTup_3, asTup_4, if_true', if_false', if_not_true', if_not_false', getD_0, getD_1, getD_2, getD_3]
    have ow1 : OwnRows DdR h1 (nx + 7) oa 3 L := ow.go (x1.fr none') (fun _ _ q => q) (fun _ _ q => q)
    obtain ⟨e1, p1, p2, p3, p4, p5⟩ := ow1.app oc (bytes := 24) (id := nx + 7) (l2 := [⟨3, 0, 0⟩, ⟨3, 0, 0⟩]) (rows2 := [[.int .i64 3, .int .i64 0, .int .i64 0], [.int .i64 3, .int .i64 0, .int .i64 0]]) ⟨_, _, rfl, rfl, All2.one rfl⟩ (fun r hr => by simp at hr; subst hr; rfl) [nx + 6] (growOk_of (by simp; omega) (by omega)) (by omega)
    simp only [List.length_cons, List.length_nil, List.flatten_cons, List.flatten_nil, List.append_nil, List.cons_append, List.nil_append, Nat.zero_add] at p1 p2
    rw [p1]
    simp only [bind_some', asI_int, asB_bool, asStr_str, asP_ptr, asSl_sl, asAgg_1, asAgg_2, asAgg_3, asAgg_4, asTup_0, asTup_2, asTup_3, asTup_4, if_true', if_false', if_not_true', if_not_false', getD_0, getD_1, getD_2, getD_3]
    have hlen : (L ++ [(⟨3, 0, 0⟩ : Deed), ⟨3, 0, 0⟩]).length = L.length + 2 := by simp
    rw [p2, show L.length + (1 + 1) = (L ++ [(⟨3, 0, 0⟩ : Deed), ⟨3, 0, 0⟩]).length by rw [hlen]]
    generalize h1.puts e1.sets = h2 at *
    obtain ⟨a12, c12, la, lc, h12, n12, g1, g2, g3, g4⟩ := playS_spec (f := f) (N := k) (by omega) h1N (by omega) Y e1.c (n0 := nx + 19) ((p3.rows (A := none') (fun _ _ q => q)).go (D := none') ⟨by omega, fun _ _ _ => rfl⟩ (fun _ _ q => q) (fun _ _ q => q) (fun _ _ q => q)) (by rw [hlen]; omega)
    rw [g1]
    simp only [bind_some', asI_int, asB_bool, asStr_str, asP_ptr, asSl_sl, asAgg_1, asAgg_2, asAgg_3, asAgg_4, asTup_0, asTup_2, asTup_3, asTup_4, if_true', if_false', if_not_true', if_not_false', getD_0, getD_1, getD_2, getD_3]
    have l12 := g2.1
    generalize hlastd : stP (freshS k) (L ++ [⟨3, 0, 0⟩, ⟨3, 0, 0⟩]) = t at *
    obtain ⟨a17, c17, h17, n17, q1, q2, q3⟩ := condense_spec (f := f) Y (N := k) (by omega) h1N (by omega) lc (n0 := n12 + 8) (g4.go (D := none') ⟨by omega, fun _ _ _ => rfl⟩ (fun _ _ q => q) (fun _ _ q => q) (fun _ _ q => q)) llen2 (R' := t.u.map bit) (by rw [List.length_map]; exact sok2.1) lok2
    rw [q1]
    simp only [bind_some', asI_int, asB_bool, asStr_str, asP_ptr, asSl_sl, asAgg_1, asAgg_2, asAgg_3, asAgg_4, asTup_0, asTup_2, asTup_3, asTup_4, if_true', if_false', if_not_true', if_not_false', getD_0, getD_1, getD_2, getD_3]
    have l17 := q2.1
    rw [if_pos (by decide), if_pos (by decide), if_pos (by simp)]
    rw [show wrapA .i64 ((((L ++ [(⟨3, 0, 0⟩ : Deed), ⟨3, 0, 0⟩]).length : Nat) : Int) - 1) = ((L.length + 1 : Nat) : Int) by rw [hlen, wA (by omega) (by omega)]; omega]
    have hout : ∃ y z, (runP (freshS k) (L ++ [⟨3, 0, 0⟩, ⟨3, 0, 0⟩]))[L.length + 1]? = some (y, z, t.free) := by
      refine ⟨(doS (doS (stP (freshS k) L) ⟨3, 0, 0⟩).1 ⟨3, 0, 0⟩).2.1, (doS (doS (stP (freshS k) L) ⟨3, 0, 0⟩).1 ⟨3, 0, 0⟩).2.2, ?_⟩
      rw [runP_app, List.getElem?_append_right (by rw [runP_len]; omega), runP_len, show L.length + 1 - L.length = 1 by omega, ← hlastd, stP_app]; rfl
    obtain ⟨y, z, hout⟩ := hout
    have x17 : Ext h12 n12 h17 n17 := ⟨by omega, fun i hi => q2.2 i (by omega)⟩
    have hol := runP_len (freshS k) (L ++ [⟨3, 0, 0⟩, ⟨3, 0, 0⟩])
    obtain ⟨r, pr, _, _, rd⟩ := (g3.go (x17.fr none') (fun _ _ q => q) (fun _ _ q => q) (fun _ _ q => q) : Rows AnQ h17 n17 none' a12 3 _).read (R := Res) hout
    simp only [AnQ] at pr
    subst pr
    rw [hol] at rd
    rw [rd 2 (.int .i64 t.free) _ (by omega) rfl]
    simp only [bind_some', asI_int, asB_bool, asStr_str, asP_ptr, asSl_sl, asAgg_1, asAgg_2, asAgg_3, asAgg_4, asTup_0, asTup_2, asTup_3, asTup_4, if_true', if_false', if_not_true', if_not_false', getD_0, getD_1, getD_2, getD_3]
    have hfr : t.free = (k : Int) := by rw [sok2.2.1, hfree, zc_rep0]
    have hcon : (conL (runsG (fun x => x == 1) (t.u.map bit) 0 none)).length = 0 := by
      have hnone : ∀ (n j : Nat), runsG (fun x => x == 1) (List.replicate n 0) j none = [] := by
        intro n
        induction n with
        | zero => intro j; rfl
        | succ n ihn => intro j; rw [List.replicate_succ]; simp only [runsG]; rw [if_neg (by decide)]; exact ihn _
      rw [hfree, List.map_replicate, show bit 0 = 0 from rfl, hnone]; rfl
    rw [if_pos (by rw [hfr]; simp), hcon]
    exact ⟨_, _, rfl⟩
  | succ d ih =>
    intro lf k oc oa h nx e hlf hn hv ow oA
    obtain ⟨lf, rfl⟩ : ∃ m, lf = m + 1 := ⟨lf - 1, by omega⟩
    have hk : k < (stP (freshS N) ds).u.length := by rw [sok.1]; omega
    have gl := givesL_len (stP (freshS N) ds).u k
    have hd : (stP (freshS N) ds).u.getD k 0 = (stP (freshS N) ds).u[k] := by rw [List.getD_eq_getElem?_getD, List.getElem?_eq_getElem hk]; rfl
    have hcell : (boolsC ((stP (freshS N) ds).u.map tkn))[k]? = some (.bool (tkn (stP (freshS N) ds).u[k])) := by simp [hk]
    have hsucc := givesL_succ (stP (freshS N) ds).u k
    rw [hd] at hsucc
    rw [F12_L3_eq, if_pos (decide_eq_true (by omega))]
    simp only [bind_some', asI_int, asB_bool, asStr_str, asP_ptr, asSl_sl, asAgg_1, asAgg_2, asAgg_3, asAgg_4, asTup_0, asTup_2, asTup_3, asTup_4, if_true', if_false', if_not_true', if_not_false', getD_0, getD_1, getD_2, getD_3]
    rw [if_pos ⟨by omega, by omega⟩, Nat.zero_add, Nat.mul_one, Int.toNat_natCast, ld_at (hv.trans hv0) hcell]
    simp only [bind_some', asI_int, asB_bool, asStr_str, asP_ptr, asSl_sl, asAgg_1, asAgg_2, asAgg_3, asAgg_4, asTup_0, asTup_2, asTup_3, asTup_4, if_true', if_false', if_not_true', if_not_false', getD_0, getD_1, getD_2, getD_3]
    cases ht : tkn (stP (freshS N) ds).u[k] with
    | true =>
      rw [ht, if_pos rfl] at hsucc
      rw [if_true']
      have hlL : (ds ++ givesL (stP (freshS N) ds).u k).length ≤ 140 := by simp; omega
      obtain ⟨e1, p1, p2, p3, p4, p5, p6, _⟩ := ow.push oc (bytes := 24) (id := nx + 10) (id2 := nx + 11) (x := ⟨2, (k : Int), 1⟩) (r := [.int .i64 2, .int .i64 (k : Int), .int .i64 1]) rfl rfl (growOk_of (by omega) (by omega)) (by omega) (by omega)
      rw [p1]
      simp only [bind_some', asI_int, asB_bool, asStr_str, asP_ptr, asSl_sl, asAgg_1, asAgg_2, asAgg_3, asAgg_4, asTup_0, asTup_2, asTup_3, asTup_4, if_true', if_false', if_not_true', if_not_false', getD_0, getD_1, getD_2, getD_3]
      rw [p2]
      simp only [bind_some', asI_int, asB_bool, asStr_str, asP_ptr, asSl_sl, asAgg_1, asAgg_2, asAgg_3, asAgg_4, asTup_0, asTup_2, asTup_3, asTup_4, if_true', if_false', if_not_true', if_not_false', getD_0, getD_1, getD_2, getD_3]
      rw [wsucc (by omega), p4, show (ds ++ givesL (stP (freshS N) ds).u k).length + 1 = (ds ++ givesL (stP (freshS N) ds).u (k + 1)).length by rw [hsucc]; simp; omega]
      refine ih lf (k + 1) e1.c e1.a _ (nx + 16) (by omega) (by omega) (by omega) ((p6.2 zb (by omega) (fun q => oA zb q rfl)).trans hv) ?_ (fun i q => by rw [p3] at q; obtain ⟨o, q⟩ := q; simp only [Option.some.injEq, Prod.mk.injEq] at q; omega)
      rw [hsucc, ← List.append_assoc]
      exact p5.go (D := none') ⟨by omega, fun _ _ _ => rfl⟩ (fun _ _ q => q) (fun _ _ q => q)
    | false =>
      rw [ht, if_neg (by simp), List.append_nil] at hsucc
      rw [if_false', wsucc (by omega), ← hsucc]
      exact ih lf (k + 1) oc oa h (nx + 10) (by omega) (by omega) (by omega) hv (by rw [hsucc]; exact ow.go (D := none') ⟨by omega, fun _ _ _ => rfl⟩ (fun _ _ q => q) (fun _ _ q => q)) oA

end Go.Proofs.Ytbekpkapkaifiaa.T
