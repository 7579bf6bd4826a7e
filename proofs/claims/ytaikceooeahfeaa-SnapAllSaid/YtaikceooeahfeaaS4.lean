/- Snaps: a keeper's turns: a block is marked, a dead one is noted. -/
import Derived.Test.YtaikceooeahfeaaS3
set_option linter.unusedVariables false
set_option linter.unusedSimpArgs false
namespace Go.Proofs.Ytaikceooeahfeaa.T
open Go Go.RowKit Go.Proofs

structure PS where
  num : Int
  made : Int
  dead : List Int
structure PK where
  now : Int
  kept : Int
  blocks : List (Int × Bool)
  shots : List PS
def SR.p (s : SR) : PS := ⟨s.num, s.made, s.dead⟩
def KR.p (K : KR) : PK := ⟨K.now, K.kept, K.blocks, K.shots.map SR.p⟩

variable {R : Type} {h h' : AHeap} {nx nx' kb : Nat} {K : KR}

theorem KOk.mark (w : KOk h nx kb K) {i : Nat} {born : Int} {l : Bool} (hi : K.blocks[i]? = some (born, l)) :
    ∃ bb b, K.ba = some (bb, 0) ∧ (∀ Kc : ABlk → Option R, (stA h bb (0 + i * 2 + 1) (.bool false) 1).bind Kc = Kc b) ∧ KOk (h.put bb (some b)) nx kb { K with blocks := K.blocks.set i (born, false) } := by
  have hrow : (K.blocks.map brow)[i]? = some (brow (born, l)) := by rw [List.getElem?_map, hi]; rfl
  obtain ⟨bb, sp, e1, e2, e3, e4⟩ := w.bs.turn (R := R) (f := 1) (v := .bool false) hrow (by omega) rfl
  have hset : (K.blocks.map brow).set i ((brow (born, l)).set 1 (.bool false)) = (K.blocks.set i (born, false)).map brow := by rw [List.map_set]; rfl
  rw [hset] at e3 e4
  refine ⟨bb, _, e1, e3, ?_⟩
  have own : ∀ i, ownOf K.ba i ↔ i = bb := fun i => ⟨fun ⟨o, q⟩ => by rw [e1] at q; cases q; rfl, fun q => ⟨0, by rw [e1, q]⟩⟩
  have fr : Frm (fun i => i = bb) h nx (h.put bb (some ⟨((K.blocks.set i (born, false)).map brow).flatten ++ sp, 2, true⟩)) nx := ⟨Nat.le_refl _, fun j _ hj => put_ne hj⟩
  have nb : ∀ i, ¬ ownOf K.ba i → ¬ i = bb := fun i q r => q ((own i).2 r)
  exact {
    lt := w.lt
    blk := by
      rw [put_ne (nb kb w.a1), w.blk]
      simp only [KR.cells, List.length_set]
    bs := e4
    ss := w.ss.go fr fun i hi => nb i fun q => w.a3 i q hi
    ds := fun s hs => (w.ds s hs).go fr fun i hi => nb i (w.a4 s hs i hi).2.1
    a1 := w.a1, a2 := w.a2, a3 := w.a3, a4 := w.a4, a5 := w.a5 }

theorem pw_set {α : Type} {P : α → α → Prop} (sym : ∀ a b, P a b → P b a) {l : List α} (h : l.Pairwise P) {j : Nat} {y : α} (hy : ∀ i (hi : i < l.length), i ≠ j → P l[i] y) : (l.set j y).Pairwise P := by
  rw [List.pairwise_iff_getElem] at h ⊢
  intro a b ha hb hab
  rw [List.length_set] at ha hb
  rw [List.getElem_set, List.getElem_set]
  split
  · split
    · omega
    · exact sym _ _ (hy b hb (by omega))
  · split
    · exact hy a ha (by omega)
    · exact h a b ha hb hab

theorem KOk.bury (w : KOk h nx kb K) {j : Nat} {S : SR} (hj : K.shots[j]? = some S) (x : Int) {id id2 : Nat} (h1 : nx ≤ id) (h2 : id < id2) (hg : S.dead.length ≤ 1000) :
    ∃ e sb b, K.sa = some (sb, 0) ∧ srcS (h.put id (some ⟨[.int .i64 x], 1, true⟩)) (some (id, 0)) 1 1 = some (1, [.int .i64 x], [id]) ∧ appD (h.put id (some ⟨[.int .i64 x], 1, true⟩)) S.a S.dead.length S.c 1 8 id2 (1, [.int .i64 x], [id]) = some e ∧
      (∀ Kc : ABlk → Option R, (stA ((h.put id (some ⟨[.int .i64 x], 1, true⟩)).puts e.sets) sb (0 + j * 3 + 2) (.slice e.a e.n e.c) 1).bind Kc = Kc b) ∧
      KOk (((h.put id (some ⟨[.int .i64 x], 1, true⟩)).puts e.sets).put sb (some b)) (id2 + 1) kb { K with shots := K.shots.set j ⟨S.num, S.made, S.dead ++ [x], e.a, e.c⟩ } ∧
      Frm (Kown kb K) h nx (((h.put id (some ⟨[.int .i64 x], 1, true⟩)).puts e.sets).put sb (some b)) (id2 + 1) ∧ (∀ i, i ∈ idsOf e.sets → ownOf S.a i ∨ i = id2) ∧ (∀ i, ownOf e.a i → ownOf S.a i ∨ i = id2) := by
  have hm : S ∈ K.shots := List.mem_of_getElem? hj
  obtain ⟨hlt, hSj⟩ := List.getElem?_eq_some_iff.1 hj
  have wd := w.ds S hm
  obtain ⟨e, q1, q2, q3, q4, q5, _, q7, q8⟩ := wd.push (bytes := 8) (id := id) (id2 := id2) (r := one1 x) rfl (growOk_of (by rw [List.length_map]; omega) (by omega)) h1 h2
  rw [List.length_map] at q2 q3
  have a4 := w.a4 S hm
  have fr1 := q5
  have ss1 := w.ss.go fr1 fun i hi q => (a4 i q).2.2 hi
  have hrow : (K.shots.map SR.row)[j]? = some S.row := by rw [List.getElem?_map, hj]; rfl
  obtain ⟨sb, sp, e1, e2, e3, e4⟩ := ss1.turn (R := R) (f := 2) (v := .slice e.a e.n e.c) hrow (by omega) rfl
  have hset : (K.shots.map SR.row).set j (S.row.set 2 (.slice e.a e.n e.c)) = (K.shots.set j ⟨S.num, S.made, S.dead ++ [x], e.a, e.c⟩).map SR.row := by
    rw [List.map_set]
    congr 1
    unfold SR.row
    rw [q3, List.length_append]; rfl
  rw [hset] at e3 e4
  have own : ∀ i, ownOf K.sa i ↔ i = sb := fun i => ⟨fun ⟨o, q⟩ => by rw [e1] at q; cases q; rfl, fun q => ⟨0, by rw [e1, q]⟩⟩
  have sbl : sb < nx := w.ss.lt sb ((own sb).2 rfl)
  refine ⟨e, sb, _, e1, q1, q2, e3, ?_, ?_, q7, q8⟩
  · show KOk (((h.put id (some ⟨one1 x, 1, true⟩)).puts e.sets).put sb (some ⟨((K.shots.set j ⟨S.num, S.made, S.dead ++ [x], e.a, e.c⟩).map SR.row).flatten ++ sp, 3, true⟩)) (id2 + 1) kb { K with shots := K.shots.set j ⟨S.num, S.made, S.dead ++ [x], e.a, e.c⟩ }
    generalize (h.put id (some ⟨one1 x, 1, true⟩)).puts e.sets = h4 at *
    have fr2 : ∀ cs, Frm (fun i => i = sb) h4 (id2 + 1) (h4.put sb (some cs)) (id2 + 1) := fun cs => ⟨Nat.le_refl _, fun j _ hj => put_ne hj⟩
    have nb : ∀ i, ¬ ownOf K.sa i → ¬ i = sb := fun i q r => q ((own i).2 r)
    have ltid : ∀ i, i < nx → i ≠ id2 := fun i hi => by omega
    have newq : ∀ i, ownOf e.a i → i ≠ kb ∧ ¬ ownOf K.ba i ∧ ¬ ownOf K.sa i := fun i hi => by
      rcases q8 i hi with q | rfl
      · exact a4 i q
      · exact ⟨by have := w.lt; omega, fun q => by have := w.bs.lt _ q; omega, fun q => by have := w.ss.lt _ q; omega⟩
    exact {
      lt := by have := w.lt; omega
      blk := by
        rw [put_ne (nb kb w.a2), fr1.2 kb w.lt (fun q => (a4 kb q).1 rfl), w.blk]
        simp only [KR.cells, List.length_set]
      bs := (w.bs.go fr1 fun i hi q => (a4 i q).2.1 hi).go (fr2 _) fun i hi => nb i (w.a3 i hi)
      ss := e4
      ds := fun s hs => by
        obtain ⟨i, hi, rfl⟩ := List.getElem_of_mem hs
        rw [List.length_set] at hi
        rw [List.getElem_set]
        split
        · have := q4.go (fr2 ⟨((K.shots.set j ⟨S.num, S.made, S.dead ++ [x], e.a, e.c⟩).map SR.row).flatten ++ sp, 3, true⟩) (fun i hi => nb i (newq i hi).2.2)
          rw [show S.dead.map one1 ++ [one1 x] = (S.dead ++ [x]).map one1 by simp] at this
          exact this
        · rename_i hij
          have hap : ∀ b, ownOf K.shots[i].a b → ¬ ownOf S.a b := by
            have pw := List.pairwise_iff_getElem.1 w.a5
            rcases Nat.lt_or_gt_of_ne hij with q | q
            · intro b hb hb2; exact pw j i hlt hi q b (by rw [hSj]; exact hb2) hb
            · intro b hb hb2; exact pw i j hi hlt q b hb (by rw [hSj]; exact hb2)
          exact ((w.ds _ (List.getElem_mem hi)).go fr1 hap).go (fr2 _) fun b hb => nb b (w.a4 _ (List.getElem_mem hi) b hb).2.2
      a1 := w.a1, a2 := w.a2, a3 := w.a3
      a4 := fun s hs b hb => by
        rcases List.mem_or_eq_of_mem_set hs with hs | rfl
        · exact w.a4 s hs b hb
        · exact newq b hb
      a5 := pw_set (fun s t q b h1 h2 => q b h2 h1) w.a5 fun i hi hij b hb hb2 => by
        rcases q8 b hb2 with q | rfl
        · have pw := List.pairwise_iff_getElem.1 w.a5
          rcases Nat.lt_or_gt_of_ne hij with z | z
          · exact pw i j hi hlt z b hb (by rw [hSj]; exact q)
          · exact pw j i hlt hi z b (by rw [hSj]; exact q) hb
        · have := (w.ds _ (List.getElem_mem hi)).lt _ hb; omega }
  · refine ⟨by have := q5.1; omega, fun i hi hd => ?_⟩
    rw [put_ne (fun q => hd (.inr (.inr (.inl ((own i).2 q)))))]
    exact q5.2 i hi fun q => hd (.inr (.inr (.inr ⟨S, hm, q⟩)))

end Go.Proofs.Ytaikceooeahfeaa.T
