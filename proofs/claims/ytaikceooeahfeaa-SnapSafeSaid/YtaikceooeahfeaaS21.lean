/- Snaps: SnapSafe, the loop over what is gone. -/
import Derived.Test.YtaikceooeahfeaaS20
set_option linter.unusedVariables false
set_option linter.unusedSimpArgs false
namespace Go.Proofs.Ytaikceooeahfeaa.T
open Go Go.RowKit Go.Proofs

def own4 (x6a x7a x8a x9a : Option (Nat × Nat)) (j : Nat) : Prop := ownOf x6a j ∨ ownOf x7a j ∨ ownOf x8a j ∨ ownOf x9a j
/-- The law's lists in memory. -/
structure SM (h0 : AHeap) (n0 : Nat) (h : AHeap) (nx : Nat) (lives goneL : List Bool) (T : List (Int × Bool)) (S : List (List Bool)) (x6a x7a x8a x9a : Option (Nat × Nat)) (x6c x7c x8c x9c : Option Nat) : Prop where
  l : Spr h nx x6a x6c 1 (lives.map brw1)
  g : Spr h nx x7a x7c 1 (goneL.map brw1)
  t : Spr h nx x9a x9c 1 ((T.map (·.2)).map brw1)
  s : ∃ rows, Spr h nx x8a x8c 1 rows ∧ All2 (fun l r => Bl h nx (own4 x6a x7a x8a x9a) l r) S rows
  a6 : ∀ j, ownOf x6a j → ¬ ownOf x7a j ∧ ¬ ownOf x8a j ∧ ¬ ownOf x9a j
  a7 : ∀ j, ownOf x7a j → ¬ ownOf x8a j ∧ ¬ ownOf x9a j
  a8 : ∀ j, ownOf x8a j → ¬ ownOf x9a j
  low : ∀ j, own4 x6a x7a x8a x9a j → n0 ≤ j
  x : Ext h0 n0 h nx

variable {h0 h : AHeap} {n0 nx : Nat} {lives goneL : List Bool} {T : List (Int × Bool)} {S : List (List Bool)} {x6a x7a x8a x9a : Option (Nat × Nat)} {x6c x7c x8c x9c : Option Nat}
theorem SM.le (w : SM h0 n0 h nx lives goneL T S x6a x7a x8a x9a x6c x7c x8c x9c) {N : Nat} (hN : nx ≤ N) : SM h0 n0 h N lives goneL T S x6a x7a x8a x9a x6c x7c x8c x9c := by
  have fr := (Frm.refl (fun _ => False) h nx).le hN
  obtain ⟨rows, s1, s2⟩ := w.s
  exact { w with l := w.l.go fr fun _ _ q => q, g := w.g.go fr fun _ _ q => q, t := w.t.go fr fun _ _ q => q, s := ⟨rows, s1.go fr fun _ _ q => q, s2.mono fun l r q => q.go fr (fun _ _ q => q.elim) fun _ _ q => q⟩, x := w.x.le hN }
/-- A truth is turned in place, in one of the lists: what becomes of the others. -/
theorem SM.mark (w : SM h0 n0 h nx lives goneL T S x6a x7a x8a x9a x6c x7c x8c x9c) {i : Nat} {b : Bool} (hi : goneL[i]? = some b) :
    ∃ tb bk, x7a = some (tb, 0) ∧ (∀ Kc : ABlk → Option Res, (stA h tb (0 + i * 1) (.bool true) 1).bind Kc = Kc bk) ∧ SM h0 n0 (h.put tb (some bk)) nx lives (goneL.set i true) T S x6a x7a x8a x9a x6c x7c x8c x9c := by
  have hrow : (goneL.map brw1)[i]? = some (brw1 b) := by rw [List.getElem?_map, hi]; rfl
  obtain ⟨tb, sp, e1, e2, e3, e4⟩ := w.g.turn (R := Res) (f := 0) (v := .bool true) hrow (by omega) rfl
  have hset : (goneL.map brw1).set i ((brw1 b).set 0 (.bool true)) = (goneL.set i true).map brw1 := by rw [List.map_set]; rfl
  rw [hset] at e3 e4
  rw [Nat.add_zero] at e3
  refine ⟨tb, _, e1, e3, ?_⟩
  have own : ∀ j, ownOf x7a j ↔ j = tb := fun j => ⟨fun ⟨o, q⟩ => by rw [e1] at q; cases q; rfl, fun q => ⟨0, by rw [e1, q]⟩⟩
  have fr : ∀ bk, Frm (fun j => j = tb) h nx (h.put tb (some bk)) nx := fun bk => ⟨Nat.le_refl _, fun j _ hj => put_ne hj⟩
  obtain ⟨rows, s1, s2⟩ := w.s
  exact { w with
    l := w.l.go (fr _) fun j hj q => (w.a6 j hj).1 ((own j).2 q)
    g := e4
    t := w.t.go (fr _) fun j hj q => (w.a7 j ((own j).2 q)).2 hj
    s := ⟨rows, s1.go (fr _) fun j hj q => (w.a7 j ((own j).2 q)).1 hj, s2.mono fun l r q => q.go (fr _) (fun j _ z => .inr (.inl ((own j).2 z))) fun _ _ z => z⟩
    x := ⟨w.x.1, fun j hj => by rw [put_ne (fun q => by have := w.low j (.inr (.inl ((own j).2 q))); omega)]; exact w.x.2 j hj⟩ }

theorem safe_l5 {f lf m0 k : Nat} (hlf : 1100 ≤ lf) {P : Option Res → Prop} {ma ga : Option (Nat × Nat)} {mc gc : Option Nat} {mn : Nat} {gs : List (Int × List Int)} {code : Int} {bs : List Int} (sg : Rows (fun g r => Gon h0 n0 (fun _ => False) r g) h0 n0 (fun _ => False) ga 2 gs) (hg : gs[k]? = some (code, bs))
    (hT : T.length ≤ 1000) (hST : S.length = T.length) (hbs : bs.length ≤ 1000) (hk : k ≤ 1000) (hgl : goneL.length = lives.length) (ans : AnsOk lives goneL T S bs)
    (next : ∀ (h' : AHeap) (nx' : Nat), SM h0 n0 h' nx' lives (marks goneL bs) T S x6a x7a x8a x9a x6c x7c x8c x9c →
      P (F3_L1 (callP Try.prog keepT f) Y0 lf m0 ma mn mc ga gs.length gc x6a lives.length x6c x7a goneL.length x7c x8a S.length x8c x9a T.length x9c ((k + 1 : Nat) : Int) h' nx')) (d : Nat) :
    ∀ (n1 q : Nat) (h : AHeap) (nx : Nat), q + d = bs.length → d < n1 → SM h0 n0 h nx lives (marks goneL (bs.take q)) T S x6a x7a x8a x9a x6c x7c x8c x9c →
      P (F3_L5 (callP Try.prog keepT f) Y0 lf m0 n1 ma mn mc ga gs.length gc x6a lives.length x6c x7a goneL.length x7c x8a S.length x8c x9a T.length x9c (k : Int) (q : Int) h nx) := by
  induction d with
  | zero =>
    intro n1 q h nx e hl w
    obtain ⟨n1, rfl⟩ : ∃ m, n1 = m + 1 := ⟨n1 - 1, by omega⟩
    obtain ⟨da, dc, dsl, g0, g1⟩ := gs_read (R := Res) (gs_go (A' := fun _ => False) sg w.x fun _ _ q => q) hg
    rw [F3_L5_eq, g1]
    simp only [mst_]
    rw [if_neg (show ¬ decide ((q : Int) < ((bs.length : Nat) : Int)) = true by rw [decide_eq_true_eq]; omega), wsucc (i := k) (by omega)]
    have hq : bs.take q = bs := List.take_of_length_le (by omega)
    rw [hq] at w
    exact next h _ (w.le (by omega))
  | succ d ih =>
    intro n1 q h nx e hl w
    obtain ⟨n1, rfl⟩ : ∃ m, n1 = m + 1 := ⟨n1 - 1, by omega⟩
    have hq : q < bs.length := by omega
    obtain ⟨da, dc, dsl, g0, g1⟩ := gs_read (R := Res) (gs_go (A' := fun _ => False) sg w.x fun _ _ q => q) hg
    obtain ⟨b0, b1, b2, b3⟩ := ans.ok bs[q] (List.getElem_mem hq)
    obtain ⟨c, hc⟩ : ∃ c : Nat, bs[q] = (c : Int) := ⟨bs[q].toNat, by omega⟩
    rw [hc, Int.toNat_natCast] at b1 b2 b3
    have hcl := (List.getElem?_eq_some_iff.1 b1).1
    have htk : bs.take (q + 1) = bs.take q ++ [(c : Int)] := by rw [← hc]; exact List.take_succ_eq_append_getElem hq
    have hnin : ¬ (c : Int) ∈ bs.take q := fun hm => by
      have hnd := ans.nd
      rw [← List.take_append_drop (q + 1) bs, htk] at hnd
      have h1 := (List.nodup_append.1 (List.nodup_append.1 hnd).1).2.2 _ hm _ (List.mem_singleton.2 rfl)
      exact h1 rfl
    have hpos : ∀ x ∈ bs.take q, 0 ≤ x := fun x hx => (ans.ok x (List.mem_of_mem_take hx)).1
    have hmk : (marks goneL (bs.take q))[c]? = some false := by rw [marks_get _ _ _ hpos, if_neg hnin]; exact b2
    have lsl := w.l.sl
    have gsl := w.g.sl
    have tsl := w.t.sl
    rw [List.length_map] at lsl gsl
    rw [List.length_map, List.length_map] at tsl
    rw [marks_len] at gsl
    rw [F3_L5_eq, g1]
    simp only [mst_]
    rw [if_pos (show decide ((q : Int) < ((bs.length : Nat) : Int)) = true from decide_eq_true (by omega)), g1]
    simp only [mst_]
    rw [dsl.read0 (i := (q : Int)) (v := .int .i64 (c : Int)) (by omega) (by show (q : Int) < ((bs.length : Nat) : Int); omega) (by omega) (by rw [Int.toNat_natCast, Nat.mul_one]; simp [ints, hq, hc])]
    simp only [mst_]
    rw [if_neg (show ¬ decide ((c : Int) < 0) = true by rw [decide_eq_true_eq]; omega), if_neg (show ¬ decide ((c : Int) ≥ ((lives.length : Nat) : Int)) = true by rw [decide_eq_true_eq]; omega),
      lsl.read0 (i := (c : Int)) (v := .bool false) (by omega) (by omega) (by omega) (by rw [Int.toNat_natCast]; exact brw1_get b1)]
    simp only [mst_]
    rw [gsl.read0 (i := (c : Int)) (v := .bool false) (by omega) (by omega) (by omega) (by rw [Int.toNat_natCast]; exact brw1_get hmk)]
    simp only [mst_]
    rw [F3_J6_eq]
    obtain ⟨tb, bk, e1, e2, w2⟩ := w.mark hmk
    rw [e1]
    simp only [mst_]
    rw [if_pos ⟨by omega, by omega⟩, Int.toNat_natCast, e2, ← e1]
    have hms : (marks goneL (bs.take q)).set c true = marks goneL (bs.take (q + 1)) := by rw [htk, marks_app]; rfl
    rw [hms] at w2
    have w3 := w2.le (show nx ≤ nx + 37 + 5 by omega)
    obtain ⟨rows, s1, s2⟩ := w3.s
    have tsl3 := w3.t.sl
    rw [List.length_map, List.length_map] at tsl3
    have ssl3 := s1.sl
    rw [s2.len] at ssl3
    refine safe_l7 (f := f) (lf := lf) (P := P) (b := c) hT hST s2 ssl3 tsl3 b3 (fun n2 N hN => ?_) S.length lf 0 _ (by omega) (by omega) (Nat.le_refl _)
    rw [F3_L7_eq, if_neg (by simp), wsucc (i := q) (by omega)]
    exact ih n1 (q + 1) _ _ (by omega) (by omega) (w3.le (by omega))

end Go.Proofs.Ytaikceooeahfeaa.T
