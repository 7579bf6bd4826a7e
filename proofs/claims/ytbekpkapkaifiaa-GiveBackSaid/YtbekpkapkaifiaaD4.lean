/- A drive: New and Do. -/
import Derived.Test.YtbekpkapkaifiaaD3
set_option linter.unusedVariables false
set_option linter.unusedSimpArgs false
namespace Go.Proofs.Ytbekpkapkaifiaa.T
open Go Go.RowKit Go.Proofs

theorem flat_set1 {es f : Nat} {x : AV} : ∀ {rows : List (List AV)} {i : Nat} {r : List AV}, (∀ r ∈ rows, r.length = es) → rows[i]? = some r → f < es → rows.flatten.set (i * es + f) x = (rows.set i (r.set f x)).flatten
  | [], i, r, _, hi, _ => by simp at hi
  | q :: rows, i, r, h, hi, hf => by
    have hq := h q List.mem_cons_self
    cases i with
    | zero =>
      simp at hi; subst hi
      simp only [Nat.zero_mul, Nat.zero_add, List.flatten_cons, List.set_cons_zero]
      rw [List.set_append_left _ _ (by omega)]
    | succ i =>
      simp at hi
      simp only [List.flatten_cons, List.set_cons_succ]
      rw [← flat_set1 (fun u hu => h u (List.mem_cons_of_mem _ hu)) hi hf, List.set_append_right _ _ (by rw [hq, Nat.add_mul]; omega)]
      congr 2
      rw [hq, Nat.add_mul]; omega

def freshL (n : Nat) : DS := ⟨List.replicate n ⟨none, false⟩, [], false⟩
def keepS (kp : Int) (k : Nat) : Bool := ((bits .and .i64 (Int.fdiv kp ((2:Int) ^ min (Int.toNat (Int.tmod (k : Int) 62)) (IntKind.bits .i64))) 1 : Int) == 1)
def markL (P : List Sec) (i : Nat) : List Sec := match P[i]? with | none => P | some c => P.set i ⟨c.data, true⟩
/-- What Do does. -/
def doL (s : DS) (j : Job) : DS × (Int × List Int) :=
  if s.dead = true ∧ j.kind ≠ 8 then (s, (13, []))
  else if j.kind = 1 then (⟨s.plate, s.waits ++ [(j.at_.toNat, j.data)], s.dead⟩, (0, []))
  else if j.kind = 2 then (s, getL s j.at_.toNat)
  else if j.kind = 3 then (⟨settleL (fun _ => true) s.waits 0 s.plate, [], s.dead⟩, (0, []))
  else if j.kind = 4 then (⟨settleL (keepS j.keep) s.waits 0 s.plate, [], s.dead⟩, (0, []))
  else if j.kind = 5 then (⟨markL s.plate j.at_.toNat, s.waits, s.dead⟩, (0, []))
  else if j.kind = 6 then (⟨s.plate.set j.at_.toNat ⟨some j.data, false⟩, s.waits, s.dead⟩, (0, []))
  else if j.kind = 7 then (⟨s.plate, s.waits, true⟩, (0, []))
  else (freshL s.plate.length, (0, []))

theorem new_spec {f : Nat} (hf : 1 ≤ f) (Y : YldF) {n : Nat} (hn : n ≤ 1000) (h : AHeap) (nx : Nat) :
    ∃ h', callP Try.prog keepT f Y 37 [.int .i64 (n : Int)] h nx = some (.ptr (some (nx + 4, 0)), h', nx + 6) ∧ Ext h nx h' (nx + 6) ∧ h' (nx + 4) = some ⟨[.slice (some (nx + 2, 0)) n true, .slice none 0 false, .bool false], 3, true⟩ ∧
      h' (nx + 2) = some ⟨(List.replicate n [AV.slice none 0 false, .bool false]).flatten, 2, true⟩ ∧ Drv h' (nx + 6) (fun i => i = nx + 2 ∨ i = nx + 4) (nx + 4) (nx + 2) none (freshL n) := by
  obtain ⟨f, rfl⟩ : ∃ m, f = m + 1 := ⟨f - 1, by omega⟩
  have hm : madeA [AV.slice none 0 false, .bool false] (n * 2) = (List.replicate n [AV.slice none 0 false, .bool false]).flatten := by
    have : ∀ m : Nat, madeA [AV.slice none 0 false, .bool false] (m * 2) = (List.replicate m [AV.slice none 0 false, .bool false]).flatten := by
      intro m
      induction m with
      | zero => simp [madeA]
      | succ m ih =>
        rw [List.replicate_succ, List.flatten_cons, ← ih]
        apply List.ext_getElem?
        intro j
        match j with
        | 0 => simp [madeA]
        | 1 => simp only [madeA, List.getElem?_map, List.cons_append, List.getElem?_cons_succ, List.nil_append]; rw [List.getElem?_range (by omega)]; simp
        | j + 2 =>
          simp only [madeA, List.getElem?_map, List.cons_append, List.getElem?_cons_succ, List.nil_append]
          by_cases hj : j < m * 2
          · rw [List.getElem?_range (by omega), List.getElem?_range hj]
            simp
          · rw [List.getElem?_eq_none (by simp; omega), List.getElem?_eq_none (by simp; omega)]
    exact this n
  rw [F37_eq, if_pos (by simp; omega)]
  simp only [bind_some', asI_int, asB_bool, asStr_str, asP_ptr, asSl_sl, asAgg_1, asAgg_2, asAgg_3, asAgg_4, asTup_0, asTup_2, asTup_3, asTup_4, if_true', if_false', if_not_true', if_not_false', getD_0, getD_1, getD_2, getD_3]
  rw [Int.toNat_natCast, hm]
  refine ⟨_, rfl, ⟨by omega, fun i hi => by rw [put_ne (by omega), put_ne (by omega)]⟩, by rw [put_same]; simp, by rw [put_ne (by omega), put_same], ?_⟩
  refine ⟨⟨true, false, by rw [put_same]; simp [freshL]⟩, ⟨List.replicate n [AV.slice none 0 false, .bool false], ?_, ?_, by rw [put_ne (by omega), put_same]⟩, OwnRows.nil _ _ _ _, by omega, by omega, by omega, fun i hi => (no_own hi).elim, .inr rfl, .inl rfl, fun i hi => (no_own hi).elim⟩
  · exact All2.replicate ⟨_, rfl, .inl ⟨rfl, rfl⟩⟩ n
  · intro r hr
    rw [List.eq_of_mem_replicate hr]; rfl

/-- What a call of Do leaves. -/
def DoR (h : AHeap) (nx : Nat) (A : Nat → Prop) (dv pl : Nat) (wa : Option (Nat × Nat)) (s' : DS) (d : List Int) (v : AV) (h' : AHeap) (nx' : Nat) : Prop :=
  ∃ A' pl' wa', Frm (fun i => i = dv ∨ i = pl ∨ ownOf wa i) h nx h' nx' ∧ (∀ i, i < nx → (i = dv ∨ i = pl' ∨ ownOf wa' i) → i = dv ∨ i = pl ∨ ownOf wa i) ∧ Drv h' nx' A' dv pl' wa' s' ∧ (∀ i, A' i → i < nx') ∧ (∀ i, i < nx → A' i → A i) ∧ (∀ i, A i → A' i) ∧ Byt .u8 h' nx' (fun i => A' i ∨ i < nx) v d

theorem byt_nil {h : AHeap} {nx : Nat} {A : Nat → Prop} : Byt .u8 h nx A (.slice none 0 false) [] := ⟨none, false, rfl, ⟨by simp, fun j hj => by simp at hj⟩, Av.none⟩
theorem job_slice {h : AHeap} {nx : Nat} {j : Job} {a : Option (Nat × Nat)} (e : j.data.length = 128) (sl : Sl h nx a j.data.length 1 (ints .u8 j.data)) : ∃ q, a = some q := by
  obtain ⟨q, _, e, _⟩ := sl.2 0 (by omega); exact ⟨q, e⟩

theorem do_spec {f : Nat} (hf : 310 ≤ f) (Y : YldF) {h : AHeap} {nx : Nat} {A : Nat → Prop} {dv pl : Nat} {wa : Option (Nat × Nat)} {s : DS} (w : Drv h nx A dv pl wa s) (hA : ∀ i, A i → i < nx) (hW : s.waits.length ≤ 300) (at_ : ∀ x ∈ s.waits, x.1 < s.plate.length) (hn : s.plate.length ≤ 1000)
    {j : Job} (ok : JobOk s.plate.length j) (hd : s.dead = false ∨ j.kind = 8) {a : Option (Nat × Nat)} {c : Bool} (sl : Sl h nx a j.data.length 1 (ints .u8 j.data)) (av : Av A a j.data.length) :
    ∃ v h' nx', callP Try.prog keepT f Y 38 [.ptr (some (dv, 0)), .agg [.int .i64 j.kind, .int .i64 j.at_, .int .i64 j.keep, .slice a j.data.length c]] h nx = some (.agg [.int .i64 (doL s j).2.1, v], h', nx') ∧ DoR h nx A dv pl wa (doL s j).1 (doL s j).2.2 v h' nx' := by
  obtain ⟨f, rfl⟩ : ∃ m, f = m + 1 := ⟨f - 1, by omega⟩
  have ld := w.ld; have lp := w.lp
  rw [F38_eq]
  dsimp only
  generalize hh1 : AHeap.put (AHeap.put h nx _) (nx + 1) _ = h1
  have x1 : Ext h nx h1 (nx + 2) := ⟨by omega, fun i hi => by rw [← hh1, put_ne (by omega), put_ne (by omega)]⟩
  have e1 : h1 nx = some ⟨[.int .i64 j.kind, .int .i64 j.at_, .int .i64 j.keep, .slice a j.data.length c], 4, true⟩ := by rw [← hh1, put_ne (by omega), put_same]
  have e2 : h1 (nx + 1) = some ⟨[.int .i64 0, .slice none 0 false], 2, true⟩ := by rw [← hh1, put_same]
  have w1 : Drv h1 (nx + 6) A dv pl wa s := (w.go (D := fun _ => False) ⟨by omega, fun i hi _ => x1.2 i hi⟩ (fun _ _ q => q.elim) (fun _ _ q => q) (fun _ q => q) (fun q => q) (fun q => q) (fun _ _ q => q))
  rw [ldr_all e1 (by simp)]
  simp only [bind_some', asI_int, asB_bool, asStr_str, asP_ptr, asSl_sl, asAgg_1, asAgg_2, asAgg_3, asAgg_4, asTup_0, asTup_2, asTup_3, asTup_4, if_true', if_false', if_not_true', if_not_false', getD_0, getD_1, getD_2, getD_3]
  obtain ⟨h2, n2, k1, k2⟩ := fault_ok (f := f) (by omega) Y w1 ok hd hn a c
  rw [k1]
  simp only [bind_some', asI_int, asB_bool, asStr_str, asP_ptr, asSl_sl, asAgg_1, asAgg_2, asAgg_3, asAgg_4, asTup_0, asTup_2, asTup_3, asTup_4, if_true', if_false', if_not_true', if_not_false', getD_0, getD_1, getD_2, getD_3]
  have l2 := k2.1
  have x2 : Ext h nx h2 n2 := ⟨by omega, fun i hi => (k2.2 i (by omega)).trans (x1.2 i hi)⟩
  have e1 := (k2.2 nx (by omega)).trans e1
  have e2 := (k2.2 (nx + 1) (by omega)).trans e2
  have w2 : Drv h2 n2 A dv pl wa s := w.go (x2.fr fun _ => False) (fun _ _ q => q.elim) (fun _ _ q => q) (fun _ q => q) (fun q => q) (fun q => q) (fun _ _ q => q)
  have sl2 : Sl h2 n2 a j.data.length 1 (ints .u8 j.data) := sl.ext x2
  have hA2 : ∀ i, A i → i < n2 := fun i q => by have := hA i q; omega
  clear k1 w1 x1 k2
  rw [ld_at e1 (v := .int .i64 j.kind) rfl]
  simp only [bind_some', asI_int, asB_bool, asStr_str, asP_ptr, asSl_sl, asAgg_1, asAgg_2, asAgg_3, asAgg_4, asTup_0, asTup_2, asTup_3, asTup_4, if_true', if_false', if_not_true', if_not_false', getD_0, getD_1, getD_2, getD_3]
  have hnd : ¬ (s.dead = true ∧ j.kind ≠ 8) := fun ⟨q1, q2⟩ => by rcases hd with q | q; rw [q1] at q; exact absurd q (by simp); exact q2 q
  unfold doL
  rw [if_neg hnd]
  have rg : j.kind = 1 ∨ j.kind = 2 ∨ j.kind = 5 ∨ j.kind = 6 → ∃ i : Nat, j.at_ = i ∧ i < s.plate.length := by
    intro q
    have : 0 ≤ j.at_ ∧ j.at_ < s.plate.length := by
      rcases ok with z | z | z | z | z | z | z | z <;> first | exact ⟨z.2.1, z.2.2.1⟩ | exact ⟨z.2.1, z.2.2⟩ | omega
    exact ⟨j.at_.toNat, by omega, by omega⟩
  have dl : j.kind = 1 ∨ j.kind = 6 → j.data.length = 128 := by
    intro q; rcases ok with z | z | z | z | z | z | z | z <;> first | exact z.2.2.2 | omega
  have kk : 1 ≤ j.kind ∧ j.kind ≤ 8 := by rcases ok with z | z | z | z | z | z | z | z <;> omega
  obtain ⟨cc, wc, ed⟩ := w2.hd
  have nwd : dv ≠ nx ∧ dv ≠ nx + 1 ∧ pl ≠ nx ∧ pl ≠ nx + 1 := by omega
  have A1 : ¬ A (nx + 1) := fun q => by have := hA _ q; omega
  have A0 : ¬ A nx := fun q => by have := hA _ q; omega
  have wn : ∀ i, ownOf wa i → i < nx := fun i q => hA i (w.aw i q)
  rw [if_neg (by decide)]
  by_cases c1 : j.kind = 1
  · rw [if_pos (by simp [c1]), if_pos c1]
    obtain ⟨i, hi, hl⟩ := rg (.inl c1)
    have dl := dl (.inl c1)
    obtain ⟨q, rfl⟩ := job_slice dl sl
    rw [ld_at ed (v := .slice wa s.waits.length wc) rfl]
    simp only [bind_some', asI_int, asB_bool, asStr_str, asP_ptr, asSl_sl, asAgg_1, asAgg_2, asAgg_3, asAgg_4, asTup_0, asTup_2, asTup_3, asTup_4, if_true', if_false', if_not_true', if_not_false', getD_0, getD_1, getD_2, getD_3]
    rw [ld_at e1 (v := .int .i64 j.at_) rfl]
    simp only [bind_some', asI_int, asB_bool, asStr_str, asP_ptr, asSl_sl, asAgg_1, asAgg_2, asAgg_3, asAgg_4, asTup_0, asTup_2, asTup_3, asTup_4, if_true', if_false', if_not_true', if_not_false', getD_0, getD_1, getD_2, getD_3]
    rw [ld_at e1 (v := .slice (some q) j.data.length c) rfl]
    simp only [bind_some', asI_int, asB_bool, asStr_str, asP_ptr, asSl_sl, asAgg_1, asAgg_2, asAgg_3, asAgg_4, asTup_0, asTup_2, asTup_3, asTup_4, if_true', if_false', if_not_true', if_not_false', getD_0, getD_1, getD_2, getD_3]
    obtain ⟨a', c', h3, n3, g1, g2, g3⟩ := clone_spec (f := f) (by omega) Y (h := h2) (nx := n2 + 22) (nxs := n2) c sl2 (by omega) (by omega)
    rw [g1]
    simp only [bind_some', asI_int, asB_bool, asStr_str, asP_ptr, asSl_sl, asAgg_1, asAgg_2, asAgg_3, asAgg_4, asTup_0, asTup_2, asTup_3, asTup_4, if_true', if_false', if_not_true', if_not_false', getD_0, getD_1, getD_2, getD_3]
    have l3 := g2.1
    have x3 : Ext h nx h3 n3 := ⟨by omega, fun i hi => (g2.2 i (by omega)).trans (x2.2 i hi)⟩
    have ga : ∀ i, i < nx → (A i ∨ i = nx + 1 ∨ i = n2 + 17 ∨ i = n2 + 18) → A i := fun i hi q => by rcases q with q | q | q | q; exact q; omega; omega; omega
    have av3 : Av (fun i => A i ∨ i = nx + 1 ∨ i = n2 + 17 ∨ i = n2 + 18) a' j.data.length := g3.av fun i i1 _ a => by rcases a with a | a | a | a; have := hA i a; omega; omega; omega; omega
    have ow : OwnRows (PutR h3 n3 fun i => A i ∨ i = nx + 1 ∨ i = n2 + 17 ∨ i = n2 + 18) h3 (n2 + 17) wa 2 s.waits := w.hw.go (D := fun _ => False) ⟨by omega, fun i hi _ => x3.2 i hi⟩ (fun _ _ q => q) (fun _ _ r => r.go (x3.fr fun _ => False) (fun _ _ q => q.elim) ga)
    obtain ⟨e, p1, p2, p3, p4, p5, p6, p7, p8⟩ := ow.push wc (bytes := 32) (id := n2 + 17) (id2 := n2 + 18) (x := (i, j.data)) (r := [.int .i64 (i : Int), .slice a' j.data.length c']) rfl ⟨_, rfl, dl, a', c', rfl, g3.sl, av3⟩ (growOk_of (by omega) (by omega)) (by omega) (by omega)
    rw [hi, p1]
    simp only [bind_some', asI_int, asB_bool, asStr_str, asP_ptr, asSl_sl, asAgg_1, asAgg_2, asAgg_3, asAgg_4, asTup_0, asTup_2, asTup_3, asTup_4, if_true', if_false', if_not_true', if_not_false', getD_0, getD_1, getD_2, getD_3]
    rw [p2]
    simp only [bind_some', asI_int, asB_bool, asStr_str, asP_ptr, asSl_sl, asAgg_1, asAgg_2, asAgg_3, asAgg_4, asTup_0, asTup_2, asTup_3, asTup_4, if_true', if_false', if_not_true', if_not_false', getD_0, getD_1, getD_2, getD_3]
    have ndw : ¬ ownOf wa dv := fun q => (w.nw _ q).1 rfl
    have npw : ¬ ownOf wa pl := fun q => (w.nw _ q).2 rfl
    have x4 : Frm (ownOf wa) h nx ((h3.put (n2 + 17) (some ⟨[.int .i64 (i : Int), .slice a' j.data.length c'], 2, true⟩)).puts e.sets) n3 := ⟨by omega, fun i hi hd => (p6.2 i (by omega) hd).trans (x3.2 i hi)⟩
    have x5 : Frm (fun i => ownOf wa i ∨ i = n2 + 17 ∨ i = n2 + 18) h3 n3 ((h3.put (n2 + 17) (some ⟨[.int .i64 (i : Int), .slice a' j.data.length c'], 2, true⟩)).puts e.sets) n3 := ⟨Nat.le_refl _, fun i hi hd => by
      rw [puts_get, put_ne (fun q => hd (.inr (.inl q)))]
      intro q; rcases p8 i q with q | q; exact hd (.inl q); exact hd (.inr (.inr q))⟩
    have e2p : ((h3.put (n2 + 17) (some ⟨[.int .i64 (i : Int), .slice a' j.data.length c'], 2, true⟩)).puts e.sets) (nx + 1) = _ := (p6.2 (nx + 1) (by omega) (fun q => by have := wn _ q; omega)).trans ((g2.2 (nx + 1) (by omega)).trans e2)
    generalize (h3.put (n2 + 17) (some ⟨[.int .i64 (i : Int), .slice a' j.data.length c'], 2, true⟩)).puts e.sets = h4 at *
    obtain ⟨cc0, wc0, ed0⟩ := w.hd
    have ed4 := (x4.2 dv ld ndw).trans ed0
    rw [p3, p4, Nat.zero_add, st_to ed4 rfl (by simp) (cs' := [.slice (some (pl, 0)) s.plate.length cc0, .slice (some (n2 + 18, 0)) (s.waits.length + 1) e.c, .bool s.dead]) rfl]
    have aa : AllApart [([n2 + 17], [dv])] := ⟨fun x hx hx2 => by simp only [List.mem_singleton] at hx hx2; omega, trivial⟩
    have ak : AllKept [(h2, h3, [dv]), (h2, h3, [nx])] := ⟨fun x hx => by simp only [List.mem_singleton] at hx; subst hx; exact g2.2 _ (by omega), fun x hx => by simp only [List.mem_singleton] at hx; subst hx; exact g2.2 _ (by omega), trivial⟩
    rw [ifApart_pos aa, ifKept_pos ak]
    have e2' : (h4.put dv (some ⟨[.slice (some (pl, 0)) s.plate.length cc0, .slice (some (n2 + 18, 0)) (s.waits.length + 1) e.c, .bool s.dead], 3, true⟩)) (nx + 1) = _ := (put_ne (by omega)).trans e2p
    rw [st_all e2' (by simp) (by simp) (by simp [allOne, AV.one])]
    rw [ldr_all (put_same _ (nx + 1) _) (by simp)]
    simp only [bind_some', asI_int, asB_bool, asStr_str, asP_ptr, asSl_sl, asAgg_1, asAgg_2, asAgg_3, asAgg_4, asTup_0, asTup_2, asTup_3, asTup_4, if_true', if_false', if_not_true', if_not_false', getD_0, getD_1, getD_2, getD_3]
    have fr : Frm (fun i => ownOf wa i ∨ i = dv) h nx ((h4.put dv (some ⟨[.slice (some (pl, 0)) s.plate.length cc0, .slice (some (n2 + 18, 0)) (s.waits.length + 1) e.c, .bool s.dead], 3, true⟩)).put (nx + 1) (some ⟨[.int .i64 0, .slice none 0 false], 2, true⟩)) (n3 + 2) := (((x4.more fun _ _ q => .inl q).put (m := n3) (.inl (.inr rfl)) (by omega)).put (.inr (by omega)) (by omega))
    have da : ∀ i, i < nx → (ownOf wa i ∨ i = dv) → A i := fun i _ q => by rcases q with q | q; exact w.aw _ q; rw [q]; exact w.ad
    have fr4 : Frm (fun i => i = dv ∨ i = nx + 1) h4 (n2 + 18 + 1) ((h4.put dv (some ⟨[.slice (some (pl, 0)) s.plate.length cc0, .slice (some (n2 + 18, 0)) (s.waits.length + 1) e.c, .bool s.dead], 3, true⟩)).put (nx + 1) (some ⟨[.int .i64 0, .slice none 0 false], 2, true⟩)) (n3 + 2) := ((Frm.refl _ h4 (n2 + 18 + 1)).put (m := n3) (.inl (.inl rfl)) (by omega)).put (.inl (.inr rfl)) (by omega)
    have fr5 : Frm (fun i => ownOf wa i ∨ i = n2 + 17 ∨ i = n2 + 18 ∨ i = dv ∨ i = nx + 1) h3 n3 ((h4.put dv (some ⟨[.slice (some (pl, 0)) s.plate.length cc0, .slice (some (n2 + 18, 0)) (s.waits.length + 1) e.c, .bool s.dead], 3, true⟩)).put (nx + 1) (some ⟨[.int .i64 0, .slice none 0 false], 2, true⟩)) (n3 + 2) := (((x5.more fun _ _ q => by rcases q with q | q | q; exact .inl q; exact .inr (.inl q); exact .inr (.inr (.inl q))).put (m := n3) (.inl (.inr (.inr (.inr (.inl rfl))))) (by omega)).put (.inl (.inr (.inr (.inr (.inr rfl))))) (by omega))
    have own2 : ∀ i, ownOf (some (n2 + 18, 0)) i → i = n2 + 18 := fun i ⟨o, q⟩ => by simp only [Option.some.injEq, Prod.mk.injEq] at q; exact q.1.symm
    rw [p3] at p5
    refine ⟨_, _, _, rfl, fun i => A i ∨ i = nx + 1 ∨ i = n2 + 17 ∨ i = n2 + 18, pl, some (n2 + 18, 0), fr.more (fun _ _ q => by rcases q with q | q; exact .inr (.inr q); exact .inl q), (fun i hi q => by rcases q with q | q | q; exact .inl q; exact .inr (.inl q); have := own2 i q; omega), ⟨⟨cc0, e.c, ?_⟩, ?_, p5.go fr4 (fun i q => by have := own2 i q; omega) ?_, by omega, by omega, w.ne, fun i q => by have := own2 i q; omega, .inl w.ad, .inl w.ap, fun i q => .inr (.inr (.inr (own2 i q)))⟩, ?_, ?_, fun _ q => .inl q, byt_nil⟩
    · rw [put_ne (by omega), put_same]; simp [Int.toNat_natCast]
    · exact PlateAt.go (A := A) w.hp fr da (fun i hi q => by rcases q with q | q | q | q; exact q; omega; omega; omega) lp (fun q => by rcases q with q | q; exact npw q; exact w.ne q.symm)
    · intro x r hr
      refine hr.go fr5 (fun i _ q => ?_) (fun _ _ q => q)
      rcases q with q | q | q | q | q
      · exact .inl (w.aw _ q)
      · exact .inr (.inr (.inl q))
      · exact .inr (.inr (.inr q))
      · rw [q]; exact .inl w.ad
      · exact .inr (.inl q)
    · intro i q; rcases q with q | q | q | q; have := hA i q; omega; omega; omega; omega
    · intro i hi q; rcases q with q | q | q | q; exact q; omega; omega; omega
  by_cases c2 : j.kind = 2
  · rw [if_neg (by simp [c1]), if_pos (by simp [c2]), if_neg c1, if_pos c2]
    obtain ⟨i, hi, hl⟩ := rg (.inr (.inl c2))
    rw [hi, ld_at e1 (v := .int .i64 j.at_) rfl]
    simp only [bind_some', asI_int, asB_bool, asStr_str, asP_ptr, asSl_sl, asAgg_1, asAgg_2, asAgg_3, asAgg_4, asTup_0, asTup_2, asTup_3, asTup_4, if_true', if_false', if_not_true', if_not_false', getD_0, getD_1, getD_2, getD_3]
    rw [hi, Int.toNat_natCast]
    have w3 : Drv h2 (n2 + 13) (fun i => A i ∨ i = nx + 1) dv pl wa s := w.go (D := fun _ => False) ⟨by omega, fun i hi _ => x2.2 i hi⟩ (fun _ _ q => q.elim) (fun i hi q => by rcases q with q | q; exact q; omega) (fun _ q => .inl q) (fun q => q) (fun q => q) (fun _ _ q => q)
    obtain ⟨v, h3, n3, g1, g2, g3⟩ := get_spec (f := f) (by omega) Y w3 (fun i q => by rcases q with q | q; have := hA i q; omega; omega) hW hl hn
    rw [g1]
    obtain ⟨b1, b2, rfl, b3, b4⟩ := g3
    simp only [bind_some', asI_int, asB_bool, asStr_str, asP_ptr, asSl_sl, asAgg_1, asAgg_2, asAgg_3, asAgg_4, asTup_0, asTup_2, asTup_3, asTup_4, if_true', if_false', if_not_true', if_not_false', getD_0, getD_1, getD_2, getD_3]
    have l3 := g2.1
    have e3 := (g2.2 (nx + 1) (by omega)).trans e2
    rw [st_all e3 (by simp) (by simp) (by simp [allOne, AV.one])]
    rw [ldr_all (put_same _ (nx + 1) _) (by simp)]
    simp only [bind_some', asI_int, asB_bool, asStr_str, asP_ptr, asSl_sl, asAgg_1, asAgg_2, asAgg_3, asAgg_4, asTup_0, asTup_2, asTup_3, asTup_4, if_true', if_false', if_not_true', if_not_false', getD_0, getD_1, getD_2, getD_3]
    have fr3 : Frm (fun i => i = nx + 1) h3 n3 (h3.put (nx + 1) (some ⟨[.int .i64 (getL s i).1, .slice b1 (getL s i).2.length b2], 2, true⟩)) n3 := (Frm.refl _ h3 n3).put (.inl rfl) (Nat.le_refl _)
    have fr : Frm (fun _ => False) h nx (h3.put (nx + 1) (some ⟨[.int .i64 (getL s i).1, .slice b1 (getL s i).2.length b2], 2, true⟩)) n3 := ⟨by omega, fun i hi _ => by rw [put_ne (by omega), g2.2 i (by omega), x2.2 i hi]⟩
    exact ⟨_, _, _, rfl, fun i => A i ∨ i = nx + 1, pl, wa, fr.more (fun _ _ q => q.elim), fun _ _ q => q, w.go fr (fun _ _ q => q.elim) (fun i hi q => by rcases q with q | q; exact q; omega) (fun _ q => .inl q) (fun q => q) (fun q => q) (fun _ _ q => q), fun i q => by rcases q with q | q; have := hA i q; omega; omega, fun i hi q => by rcases q with q | q; exact q; omega, fun _ q => .inl q, Byt.go ⟨b1, b2, rfl, b3, b4⟩ fr3 (fun i _ q => by omega) (fun i _ q => by rcases q with (q | q) | q; have := hA i q; omega; omega; omega)⟩
  by_cases c3 : j.kind = 3
  · rw [if_neg (by simp [c1]), if_neg (by simp [c2]), if_pos (by simp [c3]), if_neg c1, if_neg c2, if_pos c3]
    have w3 : Drv h2 (n2 + 12) (fun i => A i ∨ i = nx + 1) dv pl wa s := w.go (D := fun _ => False) ⟨by omega, fun i hi _ => x2.2 i hi⟩ (fun _ _ q => q.elim) (fun i hi q => by rcases q with q | q; exact q; omega) (fun _ q => .inl q) (fun q => q) (fun q => q) (fun _ _ q => q)
    obtain ⟨h3, n3, g1, g2, g3⟩ := settle_spec (f := f) (Y := Y) (so := fun _ => true) (cf := .fn 58 [] []) w3 (by omega) (by omega) at_ hn (fun k h1 nx1 hk fr => by
      obtain ⟨f', rfl⟩ : ∃ m, f = m + 2 := ⟨f - 2, by omega⟩
      exact ⟨_, Nat.le_add_right nx1 2, _, _, _, asCal_fn _ _ _, by rw [callC_fn]; exact F58_eq _ _ _ _ _⟩)
    rw [g1]
    simp only [bind_some', asI_int, asB_bool, asStr_str, asP_ptr, asSl_sl, asAgg_1, asAgg_2, asAgg_3, asAgg_4, asTup_0, asTup_2, asTup_3, asTup_4, if_true', if_false', if_not_true', if_not_false', getD_0, getD_1, getD_2, getD_3]
    have l3 := g2.1
    have e3 := (g2.2 (nx + 1) (by omega) (by omega)).trans e2
    rw [st_all e3 (by simp) (by simp) (by simp [allOne, AV.one])]
    rw [ldr_all (put_same _ (nx + 1) _) (by simp)]
    simp only [bind_some', asI_int, asB_bool, asStr_str, asP_ptr, asSl_sl, asAgg_1, asAgg_2, asAgg_3, asAgg_4, asTup_0, asTup_2, asTup_3, asTup_4, if_true', if_false', if_not_true', if_not_false', getD_0, getD_1, getD_2, getD_3]
    have fr3 : Frm (fun i => i = nx + 1) h3 n3 (h3.put (nx + 1) (some ⟨[.int .i64 0, .slice none 0 false], 2, true⟩)) (n3 + 2) := (Frm.refl _ h3 n3).put (.inl rfl) (by omega)
    have fr : Frm (fun i => i = dv ∨ i = pl ∨ ownOf wa i) h nx (h3.put (nx + 1) (some ⟨[.int .i64 0, .slice none 0 false], 2, true⟩)) (n3 + 2) := ⟨by omega, fun i hi hd => by rw [put_ne (by omega), g2.2 i (by omega) (fun q => by rcases q with q | q; exact hd (.inr (.inl q)); exact hd (.inl q)), x2.2 i hi]⟩
    exact ⟨_, _, _, rfl, fun i => A i ∨ i = nx + 1, pl, none, fr, (fun i _ q => by rcases q with q | q | q; exact .inl q; exact .inr (.inl q); exact (no_own q).elim), g3.go fr3 (fun i _ q => .inr q) (fun _ _ q => q) (fun _ q => q) (by omega) (by omega) (fun i hi => (no_own hi).elim), fun i q => by rcases q with q | q; have := hA i q; omega; omega, fun i hi q => by rcases q with q | q; exact q; omega, fun _ q => .inl q, byt_nil⟩
  by_cases c4 : j.kind = 4
  · rw [if_neg (by simp [c1]), if_neg (by simp [c2]), if_neg (by simp [c3]), if_pos (by simp [c4]), if_neg c1, if_neg c2, if_neg c3, if_pos c4]
    have w3 : Drv h2 (n2 + 15) (fun i => A i ∨ i = nx + 1) dv pl wa s := w.go (D := fun _ => False) ⟨by omega, fun i hi _ => x2.2 i hi⟩ (fun _ _ q => q.elim) (fun i hi q => by rcases q with q | q; exact q; omega) (fun _ q => .inl q) (fun q => q) (fun q => q) (fun _ _ q => q)
    obtain ⟨h3, n3, g1, g2, g3⟩ := settle_spec (f := f) (Y := Y) (so := keepS j.keep) (cf := .fn 59 [] [.ptr (some (nx, 0))]) w3 (by omega) (by omega) at_ hn (fun k h1 nx1 hk fr => by
      obtain ⟨f', rfl⟩ : ∃ m, f = m + 2 := ⟨f - 2, by omega⟩
      have e4 : h1 nx = _ := (fr.2 nx (by omega) (by omega)).trans e1
      refine ⟨nx1 + 9, by omega, _, _, _, asCal_fn _ _ _, ?_⟩
      rw [callC_fn]
      simp only [nil_app, List.cons_append]
      rw [show f' + 2 - 1 = f' + 1 from rfl, F59_eq]
      simp only [bind_some', asI_int, asB_bool, asStr_str, asP_ptr, asSl_sl, asAgg_1, asAgg_2, asAgg_3, asAgg_4, asTup_0, asTup_2, asTup_3, asTup_4, if_true', if_false', if_not_true', if_not_false', getD_0, getD_1, getD_2, getD_3]
      rw [ld_at e4 (v := .int .i64 j.keep) rfl]
      simp only [bind_some', asI_int, asB_bool, asStr_str, asP_ptr, asSl_sl, asAgg_1, asAgg_2, asAgg_3, asAgg_4, asTup_0, asTup_2, asTup_3, asTup_4, if_true', if_false', if_not_true', if_not_false', getD_0, getD_1, getD_2, getD_3]
      rw [if_neg (by have := Int.tmod_nonneg (a := (k : Int)) 62 (by omega); omega)]
      rfl)
    rw [g1]
    simp only [bind_some', asI_int, asB_bool, asStr_str, asP_ptr, asSl_sl, asAgg_1, asAgg_2, asAgg_3, asAgg_4, asTup_0, asTup_2, asTup_3, asTup_4, if_true', if_false', if_not_true', if_not_false', getD_0, getD_1, getD_2, getD_3]
    have l3 := g2.1
    have e3 := (g2.2 (nx + 1) (by omega) (by omega)).trans e2
    rw [st_all e3 (by simp) (by simp) (by simp [allOne, AV.one])]
    rw [ldr_all (put_same _ (nx + 1) _) (by simp)]
    simp only [bind_some', asI_int, asB_bool, asStr_str, asP_ptr, asSl_sl, asAgg_1, asAgg_2, asAgg_3, asAgg_4, asTup_0, asTup_2, asTup_3, asTup_4, if_true', if_false', if_not_true', if_not_false', getD_0, getD_1, getD_2, getD_3]
    have fr3 : Frm (fun i => i = nx + 1) h3 n3 (h3.put (nx + 1) (some ⟨[.int .i64 0, .slice none 0 false], 2, true⟩)) (n3 + 2) := (Frm.refl _ h3 n3).put (.inl rfl) (by omega)
    have fr : Frm (fun i => i = dv ∨ i = pl ∨ ownOf wa i) h nx (h3.put (nx + 1) (some ⟨[.int .i64 0, .slice none 0 false], 2, true⟩)) (n3 + 2) := ⟨by omega, fun i hi hd => by rw [put_ne (by omega), g2.2 i (by omega) (fun q => by rcases q with q | q; exact hd (.inr (.inl q)); exact hd (.inl q)), x2.2 i hi]⟩
    exact ⟨_, _, _, rfl, fun i => A i ∨ i = nx + 1, pl, none, fr, (fun i _ q => by rcases q with q | q | q; exact .inl q; exact .inr (.inl q); exact (no_own q).elim), g3.go fr3 (fun i _ q => .inr q) (fun _ _ q => q) (fun _ q => q) (by omega) (by omega) (fun i hi => (no_own hi).elim), fun i q => by rcases q with q | q; have := hA i q; omega; omega, fun i hi q => by rcases q with q | q; exact q; omega, fun _ q => .inl q, byt_nil⟩
  by_cases c5 : j.kind = 5
  · rw [if_neg (by simp [c1]), if_neg (by simp [c2]), if_neg (by simp [c3]), if_neg (by simp [c4]), if_pos (by simp [c5]), if_neg c1, if_neg c2, if_neg c3, if_neg c4, if_pos c5]
    obtain ⟨i, hi, hl⟩ := rg (.inr (.inr (.inl c5)))
    obtain ⟨rows, hr, len, ep⟩ := w.hp
    have ep2 := (x2.2 pl lp).trans ep
    obtain ⟨sc, hsc⟩ : ∃ sc, s.plate[i]? = some sc := ⟨_, List.getElem?_eq_getElem hl⟩
    obtain ⟨r, hri, v, rfl, hv⟩ := hr.get i sc hsc
    have hfl := flat_len len
    rw [hr.len] at hfl
    rw [ld_at ed (v := .slice (some (pl, 0)) s.plate.length cc) rfl]
    simp only [bind_some', asI_int, asB_bool, asStr_str, asP_ptr, asSl_sl, asAgg_1, asAgg_2, asAgg_3, asAgg_4, asTup_0, asTup_2, asTup_3, asTup_4, if_true', if_false', if_not_true', if_not_false', getD_0, getD_1, getD_2, getD_3]
    rw [ld_at e1 (v := .int .i64 j.at_) rfl]
    simp only [bind_some', asI_int, asB_bool, asStr_str, asP_ptr, asSl_sl, asAgg_1, asAgg_2, asAgg_3, asAgg_4, asTup_0, asTup_2, asTup_3, asTup_4, if_true', if_false', if_not_true', if_not_false', getD_0, getD_1, getD_2, getD_3]
    rw [hi, if_pos ⟨by omega, by omega⟩, Nat.zero_add, Int.toNat_natCast, st_one ep2 rfl (by omega), flat_set1 len hri (by omega)]
    have e2' : (h2.put pl (some ⟨(rows.set i (List.set [v, .bool sc.broken] 1 (.bool true))).flatten, 2, true⟩)) (nx + 1) = _ := (put_ne (by omega)).trans e2
    have ep3 := put_same h2 pl (some ⟨(rows.set i (List.set [v, .bool sc.broken] 1 (.bool true))).flatten, 2, true⟩)
    have fr : Frm (fun i => i = pl) h2 n2 (h2.put pl (some ⟨(rows.set i (List.set [v, .bool sc.broken] 1 (.bool true))).flatten, 2, true⟩)) (n2 + 25) := (Frm.refl _ h2 n2).put (.inl rfl) (by omega)
    generalize h2.put pl (some ⟨(rows.set i (List.set [v, .bool sc.broken] 1 (.bool true))).flatten, 2, true⟩) = h3 at *
    rw [st_all e2' (by simp) (by simp) (by simp [allOne, AV.one])]
    rw [ldr_all (put_same _ (nx + 1) _) (by simp)]
    simp only [bind_some', asI_int, asB_bool, asStr_str, asP_ptr, asSl_sl, asAgg_1, asAgg_2, asAgg_3, asAgg_4, asTup_0, asTup_2, asTup_3, asTup_4, if_true', if_false', if_not_true', if_not_false', getD_0, getD_1, getD_2, getD_3]
    have fr2 : Frm (fun i => i = pl) h nx (h3.put (nx + 1) (some ⟨[.int .i64 0, .slice none 0 false], 2, true⟩)) (n2 + 25) := ((x2.fr _).trans fr (fun _ _ q => q)).put (.inr (by omega)) (by omega)
    have da : ∀ i, i < nx → i = pl → A i := fun i _ q => by rw [q]; exact w.ap
    obtain ⟨cc0, wc0, ed0⟩ := w.hd
    have hm : markL s.plate i = s.plate.set i ⟨sc.data, true⟩ := by simp only [markL, hsc]
    refine ⟨_, _, _, rfl, A, pl, wa, fr2.more (fun _ _ q => .inr (.inl q)), fun _ _ q => q, ?_, fun i q => by have := hA i q; omega, fun _ _ q => q, fun _ q => q, byt_nil⟩
    rw [hm]
    refine ⟨⟨cc0, wc0, by rw [List.length_set]; exact (fr2.2 dv ld w.ne).trans ed0⟩, ⟨_, All2.set (hr.mono fun _ _ r => r.go fr2 da (fun _ _ q => q)) i ⟨sc.data, true⟩ (List.set [v, .bool sc.broken] 1 (.bool true)) ⟨v, rfl, ?_⟩, ?_, (put_ne (by omega)).trans ep3⟩, w.hw.go fr2 (fun i q => (w.nw i q).2) (fun _ _ r => r.go fr2 da (fun _ _ q => q)), by omega, by omega, w.ne, w.nw, w.ad, w.ap, w.aw⟩
    · exact hv.imp id fun ⟨bs, q1, q2, b⟩ => ⟨bs, q1, q2, b.go fr2 da (fun _ _ q => q)⟩
    · intro r hr
      rcases List.mem_or_eq_of_mem_set hr with hr | rfl
      · exact len r hr
      · rfl
  by_cases c6 : j.kind = 6
  · rw [if_neg (by simp [c1]), if_neg (by simp [c2]), if_neg (by simp [c3]), if_neg (by simp [c4]), if_neg (by simp [c5]), if_pos (by simp [c6]), if_neg c1, if_neg c2, if_neg c3, if_neg c4, if_neg c5, if_pos c6]
    obtain ⟨i, hi, hl⟩ := rg (.inr (.inr (.inr c6)))
    have dl := dl (.inr c6)
    obtain ⟨q, rfl⟩ := job_slice dl sl
    rw [ld_at ed (v := .slice (some (pl, 0)) s.plate.length cc) rfl]
    simp only [bind_some', asI_int, asB_bool, asStr_str, asP_ptr, asSl_sl, asAgg_1, asAgg_2, asAgg_3, asAgg_4, asTup_0, asTup_2, asTup_3, asTup_4, if_true', if_false', if_not_true', if_not_false', getD_0, getD_1, getD_2, getD_3]
    rw [ld_at e1 (v := .int .i64 j.at_) rfl]
    simp only [bind_some', asI_int, asB_bool, asStr_str, asP_ptr, asSl_sl, asAgg_1, asAgg_2, asAgg_3, asAgg_4, asTup_0, asTup_2, asTup_3, asTup_4, if_true', if_false', if_not_true', if_not_false', getD_0, getD_1, getD_2, getD_3]
    rw [ld_at e1 (v := .slice (some q) j.data.length c) rfl]
    simp only [bind_some', asI_int, asB_bool, asStr_str, asP_ptr, asSl_sl, asAgg_1, asAgg_2, asAgg_3, asAgg_4, asTup_0, asTup_2, asTup_3, asTup_4, if_true', if_false', if_not_true', if_not_false', getD_0, getD_1, getD_2, getD_3]
    obtain ⟨a', c', h3, n3, g1, g2, g3⟩ := clone_spec (f := f) (by omega) Y (h := h2) (nx := n2 + 28) (nxs := n2) c sl2 (by omega) (by omega)
    rw [g1]
    simp only [bind_some', asI_int, asB_bool, asStr_str, asP_ptr, asSl_sl, asAgg_1, asAgg_2, asAgg_3, asAgg_4, asTup_0, asTup_2, asTup_3, asTup_4, if_true', if_false', if_not_true', if_not_false', getD_0, getD_1, getD_2, getD_3]
    have l3 := g2.1
    have x3 : Ext h nx h3 n3 := ⟨by omega, fun i hi => (g2.2 i (by omega)).trans (x2.2 i hi)⟩
    have p3 : PlateAt h3 n3 (fun i => A i ∨ i = nx + 1) pl s.plate := PlateAt.go (A := A) w.hp (x3.fr fun _ => False) (fun _ _ q => q.elim) (fun i hi q => by rcases q with q | q; exact q; omega) lp (fun q => q)
    have av3 : Av (fun i => A i ∨ i = nx + 1) a' j.data.length := g3.av fun i i1 _ a => by rcases a with a | a; have := hA i a; omega; omega
    obtain ⟨cs, p4, p5, p6, p7⟩ := p3.set (.inl w.ap) (by omega) (i := i) (s := ⟨some j.data, false⟩) (r := [.slice a' j.data.length c', .bool false]) ⟨_, rfl, .inr ⟨j.data, rfl, dl, a', c', rfl, g3.sl, av3⟩⟩ hl
    rw [hi, if_pos ⟨by omega, by omega⟩, Nat.zero_add, Int.toNat_natCast, st_at p4 (n := 2) (v := .agg [.slice a' j.data.length c', .bool false]) rfl p5 rfl]
    rw [show AV.cells (.agg [.slice a' j.data.length c', .bool false]) = [.slice a' j.data.length c', .bool false] from rfl]
    have ak : AllKept [(h2, h3, [dv]), (h2, h3, [nx])] := ⟨fun x hx => by simp only [List.mem_singleton] at hx; subst hx; exact g2.2 _ (by omega), fun x hx => by simp only [List.mem_singleton] at hx; subst hx; exact g2.2 _ (by omega), trivial⟩
    rw [ifKept_pos ak]
    have e3 : (h3.put pl (some ⟨splice cs (i * 2) [.slice a' j.data.length c', .bool false], 2, true⟩)) (nx + 1) = _ := (put_ne (by omega)).trans ((g2.2 (nx + 1) (by omega)).trans e2)
    rw [st_all e3 (by simp) (by simp) (by simp [allOne, AV.one])]
    rw [ldr_all (put_same _ (nx + 1) _) (by simp)]
    simp only [bind_some', asI_int, asB_bool, asStr_str, asP_ptr, asSl_sl, asAgg_1, asAgg_2, asAgg_3, asAgg_4, asTup_0, asTup_2, asTup_3, asTup_4, if_true', if_false', if_not_true', if_not_false', getD_0, getD_1, getD_2, getD_3]
    have fr2 : Frm (fun i => i = pl) h nx ((h3.put pl (some ⟨splice cs (i * 2) [.slice a' j.data.length c', .bool false], 2, true⟩)).put (nx + 1) (some ⟨[.int .i64 0, .slice none 0 false], 2, true⟩)) (n3 + 2) := (Frm.put (m := n3) (x3.fr (fun i => i = pl)) (.inl rfl) (Nat.le_refl _)).put (.inr (by omega)) (by omega)
    have fr3 : Frm (fun i => i = nx + 1) (h3.put pl (some ⟨splice cs (i * 2) [.slice a' j.data.length c', .bool false], 2, true⟩)) n3 ((h3.put pl (some ⟨splice cs (i * 2) [.slice a' j.data.length c', .bool false], 2, true⟩)).put (nx + 1) (some ⟨[.int .i64 0, .slice none 0 false], 2, true⟩)) (n3 + 2) := (Frm.refl _ _ n3).put (.inl rfl) (by omega)
    have da : ∀ i, i < nx → i = pl → A i := fun i _ q => by rw [q]; exact w.ap
    have p8 := p7.go fr3 (A' := fun i => A i ∨ i = nx + 1) (fun i _ q => .inr q) (fun _ _ q => q) (by omega) (by omega)
    obtain ⟨cc0, wc0, ed0⟩ := w.hd
    have ga : ∀ i, i < nx → (A i ∨ i = nx + 1) → A i := fun i hi q => by rcases q with q | q; exact q; omega
    exact ⟨_, _, _, rfl, fun i => A i ∨ i = nx + 1, pl, wa, fr2.more (fun _ _ q => .inr (.inl q)), fun _ _ q => q, ⟨⟨cc0, wc0, by rw [List.length_set]; exact (fr2.2 dv ld w.ne).trans ed0⟩, p8, w.hw.go fr2 (fun i q => (w.nw i q).2) (fun _ _ r => r.go fr2 da ga), by omega, by omega, w.ne, w.nw, .inl w.ad, .inl w.ap, fun i q => .inl (w.aw i q)⟩, fun i q => by rcases q with q | q; have := hA i q; omega; omega, ga, fun _ q => .inl q, byt_nil⟩
  by_cases c7 : j.kind = 7
  · rw [if_neg (by simp [c1]), if_neg (by simp [c2]), if_neg (by simp [c3]), if_neg (by simp [c4]), if_neg (by simp [c5]), if_neg (by simp [c6]), if_pos (by simp [c7]), if_neg c1, if_neg c2, if_neg c3, if_neg c4, if_neg c5, if_neg c6, if_pos c7]
    rw [Nat.zero_add, st_to ed rfl (by simp) (cs' := [.slice (some (pl, 0)) s.plate.length cc, .slice wa s.waits.length wc, .bool true]) rfl]
    simp only [bind_some', asI_int, asB_bool, asStr_str, asP_ptr, asSl_sl, asAgg_1, asAgg_2, asAgg_3, asAgg_4, asTup_0, asTup_2, asTup_3, asTup_4, if_true', if_false', if_not_true', if_not_false', getD_0, getD_1, getD_2, getD_3]
    have e2' : (h2.put dv (some ⟨[.slice (some (pl, 0)) s.plate.length cc, .slice wa s.waits.length wc, .bool true], 3, true⟩)) (nx + 1) = _ := (put_ne (by omega)).trans e2
    have ed' := put_same h2 dv (some ⟨[.slice (some (pl, 0)) s.plate.length cc, .slice wa s.waits.length wc, .bool true], 3, true⟩)
    have fr : Frm (fun i => i = dv) h2 n2 (h2.put dv (some ⟨[.slice (some (pl, 0)) s.plate.length cc, .slice wa s.waits.length wc, .bool true], 3, true⟩)) (n2 + 24) := (Frm.refl _ h2 n2).put (.inl rfl) (by omega)
    generalize h2.put dv (some ⟨[.slice (some (pl, 0)) s.plate.length cc, .slice wa s.waits.length wc, .bool true], 3, true⟩) = h3 at *
    rw [st_all e2' (by simp) (by simp) (by simp [allOne, AV.one])]
    rw [ldr_all (put_same _ (nx + 1) _) (by simp)]
    simp only [bind_some', asI_int, asB_bool, asStr_str, asP_ptr, asSl_sl, asAgg_1, asAgg_2, asAgg_3, asAgg_4, asTup_0, asTup_2, asTup_3, asTup_4, if_true', if_false', if_not_true', if_not_false', getD_0, getD_1, getD_2, getD_3]
    have fr2 : Frm (fun i => i = dv) h nx (h3.put (nx + 1) (some ⟨[.int .i64 0, .slice none 0 false], 2, true⟩)) (n2 + 24) := ((x2.fr _).trans fr (fun _ _ q => q)).put (.inr (by omega)) (by omega)
    obtain ⟨rows, hr, len, ep⟩ := w.hp
    have da : ∀ i, i < nx → i = dv → A i := fun i _ q => by rw [q]; exact w.ad
    refine ⟨_, _, _, rfl, A, pl, wa, fr2.more (fun _ _ q => .inl q), fun _ _ q => q, ⟨⟨cc, wc, (put_ne (by omega)).trans ed'⟩, ⟨rows, hr.mono fun _ _ r => r.go fr2 da (fun _ _ q => q), len, (fr2.2 pl lp (fun q => w.ne q.symm)).trans ep⟩, w.hw.go fr2 (fun i q => (w.nw i q).1) (fun _ _ r => r.go fr2 da (fun _ _ q => q)), by omega, by omega, w.ne, w.nw, w.ad, w.ap, w.aw⟩, fun i q => by have := hA i q; omega, fun _ _ q => q, fun _ q => q, byt_nil⟩
  · have c8 : j.kind = 8 := by omega
    rw [if_neg (by simp [c1]), if_neg (by simp [c2]), if_neg (by simp [c3]), if_neg (by simp [c4]), if_neg (by simp [c5]), if_neg (by simp [c6]), if_neg (by simp [c7]), if_pos (by simp [c8]), if_neg c1, if_neg c2, if_neg c3, if_neg c4, if_neg c5, if_neg c6, if_neg c7]
    rw [ld_at ed (v := .slice (some (pl, 0)) s.plate.length cc) rfl]
    simp only [bind_some', asI_int, asB_bool, asStr_str, asP_ptr, asSl_sl, asAgg_1, asAgg_2, asAgg_3, asAgg_4, asTup_0, asTup_2, asTup_3, asTup_4, if_true', if_false', if_not_true', if_not_false', getD_0, getD_1, getD_2, getD_3]
    obtain ⟨h3, g1, g2, g3, g5, g4⟩ := new_spec (f := f) (by omega) Y hn h2 (n2 + 31)
    rw [g1]
    simp only [bind_some', asI_int, asB_bool, asStr_str, asP_ptr, asSl_sl, asAgg_1, asAgg_2, asAgg_3, asAgg_4, asTup_0, asTup_2, asTup_3, asTup_4, if_true', if_false', if_not_true', if_not_false', getD_0, getD_1, getD_2, getD_3]
    rw [ldr_all g3 (by simp)]
    simp only [bind_some', asI_int, asB_bool, asStr_str, asP_ptr, asSl_sl, asAgg_1, asAgg_2, asAgg_3, asAgg_4, asTup_0, asTup_2, asTup_3, asTup_4, if_true', if_false', if_not_true', if_not_false', getD_0, getD_1, getD_2, getD_3]
    have ed3 := (g2.2 dv (by omega)).trans ed
    rw [st_all ed3 (by simp) (by simp) (by simp [allOne, AV.one])]
    have e3 : (h3.put dv (some ⟨[.slice (some (n2 + 31 + 2, 0)) s.plate.length true, .slice none 0 false, .bool false], 3, true⟩)) (nx + 1) = _ := (put_ne (by omega)).trans ((g2.2 (nx + 1) (by omega)).trans e2)
    rw [st_all e3 (by simp) (by simp) (by simp [allOne, AV.one])]
    rw [ldr_all (put_same _ (nx + 1) _) (by simp)]
    simp only [bind_some', asI_int, asB_bool, asStr_str, asP_ptr, asSl_sl, asAgg_1, asAgg_2, asAgg_3, asAgg_4, asTup_0, asTup_2, asTup_3, asTup_4, if_true', if_false', if_not_true', if_not_false', getD_0, getD_1, getD_2, getD_3]
    have fr2 : Frm (fun i => i = dv ∨ i = nx + 1) h3 (n2 + 31 + 6) ((h3.put dv (some ⟨[.slice (some (n2 + 31 + 2, 0)) s.plate.length true, .slice none 0 false, .bool false], 3, true⟩)).put (nx + 1) (some ⟨[.int .i64 0, .slice none 0 false], 2, true⟩)) (n2 + 31 + 6 + 2) := ((Frm.refl _ h3 (n2 + 31 + 6)).put (m := n2 + 31 + 6) (.inl (.inl rfl)) (by omega)).put (.inl (.inr rfl)) (by omega)
    have fr : Frm (fun i => i = dv) h nx ((h3.put dv (some ⟨[.slice (some (n2 + 31 + 2, 0)) s.plate.length true, .slice none 0 false, .bool false], 3, true⟩)).put (nx + 1) (some ⟨[.int .i64 0, .slice none 0 false], 2, true⟩)) (n2 + 31 + 6 + 2) := ⟨by omega, fun i hi hd => by rw [put_ne (by omega), put_ne hd, g2.2 i (by omega), x2.2 i hi]⟩
    have da : ∀ i, i < nx → i = dv → A i := fun i _ q => by rw [q]; exact w.ad
    refine ⟨_, _, _, rfl, fun i => A i ∨ i = n2 + 31 + 2, n2 + 31 + 2, none, fr.more (fun _ _ q => .inl q), (fun i hi q => by rcases q with q | q | q; exact .inl q; omega; exact (no_own q).elim), ⟨⟨true, false, ?_⟩, ⟨List.replicate s.plate.length [.slice none 0 false, .bool false], All2.replicate ⟨_, rfl, .inl ⟨rfl, rfl⟩⟩ _, ?_, ?_⟩, OwnRows.nil _ _ _ _, by omega, by omega, by omega, fun i hi => (no_own hi).elim, .inl w.ad, .inr rfl, fun i hi => (no_own hi).elim⟩, fun i q => by rcases q with q | q; have := hA i q; omega; omega, fun i hi q => by rcases q with q | q; exact q; omega, fun _ q => .inl q, byt_nil⟩
    · rw [put_ne (by omega), put_same]; simp [freshL]
    · intro r hr; rw [List.eq_of_mem_replicate hr]; rfl
    · rw [put_ne (by omega), put_ne (by omega), g5]

end Go.Proofs.Ytbekpkapkaifiaa.T
