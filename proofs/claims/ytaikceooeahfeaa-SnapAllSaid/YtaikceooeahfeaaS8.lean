/- Snaps: a move. -/
import Derived.Test.YtaikceooeahfeaaS7
set_option linter.unusedVariables false
set_option linter.unusedSimpArgs false
namespace Go.Proofs.Ytaikceooeahfeaa.T
open Go Go.RowKit Go.Proofs

def moveP (K : PK) (kind which : Int) : PK × Int × List Int :=
  if kind = 1 then (if K.blocks.length = 200 then (K, 8, []) else ({ K with blocks := K.blocks ++ [(K.now, true)] }, 0, []))
  else if kind = 2 then killP K which
  else if kind = 3 then (if K.shots.length = 9 then (K, 8, []) else ({ K with shots := K.shots ++ [⟨K.kept, K.now, []⟩], kept := K.kept + 1 }, 0, []))
  else if kind = 4 then dropP K which
  else (K, 3, [])

variable {h : AHeap} {nx kb : Nat} {K : KR}

theorem KOk.birth (w : KOk h nx kb K) {id id2 : Nat} (h1 : nx ≤ id) (h2 : id < id2) (hg : K.blocks.length ≤ 1000) (x : Int × Bool) :
    ∃ e, srcS (h.put id (some ⟨brow x, 2, true⟩)) (some (id, 0)) 1 2 = some (1, brow x, [id]) ∧ appD (h.put id (some ⟨brow x, 2, true⟩)) K.ba K.blocks.length K.bc 2 16 id2 (1, brow x, [id]) = some e ∧
      ((h.put id (some ⟨brow x, 2, true⟩)).puts e.sets) kb = some ⟨K.cells, 4, true⟩ ∧ K.cells.set 1 (.slice e.a e.n e.c) = KR.cells { K with blocks := K.blocks ++ [x], ba := e.a, bc := e.c } ∧
      KOk (((h.put id (some ⟨brow x, 2, true⟩)).puts e.sets).put kb (some ⟨KR.cells { K with blocks := K.blocks ++ [x], ba := e.a, bc := e.c }, 4, true⟩)) (id2 + 1) kb { K with blocks := K.blocks ++ [x], ba := e.a, bc := e.c } ∧
      Frm (Kown kb K) h nx (((h.put id (some ⟨brow x, 2, true⟩)).puts e.sets).put kb (some ⟨KR.cells { K with blocks := K.blocks ++ [x], ba := e.a, bc := e.c }, 4, true⟩)) (id2 + 1) ∧
      ∀ i, Kown kb { K with blocks := K.blocks ++ [x], ba := e.a, bc := e.c } i → Kown kb K i ∨ i = id2 := by
  obtain ⟨e, q1, q2, q3, q4, q5, _, q7, q8⟩ := w.bs.push (bytes := 16) (id := id) (id2 := id2) (r := brow x) rfl (growOk_of (by rw [List.length_map]; omega) (by omega)) h1 h2
  rw [List.length_map] at q2 q3
  have kbl := w.lt
  have e4 : ((h.put id (some ⟨brow x, 2, true⟩)).puts e.sets) kb = some ⟨K.cells, 4, true⟩ := (q5.2 kb kbl w.a1).trans w.blk
  have hcell : K.cells.set 1 (.slice e.a e.n e.c) = KR.cells { K with blocks := K.blocks ++ [x], ba := e.a, bc := e.c } := by
    simp only [KR.cells, List.length_append, q3]; rfl
  refine ⟨e, q1, q2, e4, hcell, ?_, ?_, ?_⟩
  · generalize (h.put id (some ⟨brow x, 2, true⟩)).puts e.sets = h4 at *
    have f2 : ∀ b, Frm (fun j => j = kb) h4 (id2 + 1) (h4.put kb b) (id2 + 1) := fun b => ⟨Nat.le_refl _, fun j _ hj => put_ne hj⟩
    have newq : ∀ i, ownOf e.a i → i ≠ kb := fun i hi q => by
      rcases q8 i hi with z | z
      · exact w.a1 (q ▸ z)
      · omega
    exact {
      lt := by omega
      blk := put_same _ _ _
      bs := by
        have := q4.go (f2 (some ⟨KR.cells { K with blocks := K.blocks ++ [x], ba := e.a, bc := e.c }, 4, true⟩)) newq
        rw [show K.blocks.map brow ++ [brow x] = (K.blocks ++ [x]).map brow by simp] at this
        exact this
      ss := (w.ss.go q5 fun i hi q => w.a3 i q hi).go (f2 _) fun i hi q => w.a2 (q ▸ hi)
      ds := fun s hs => ((w.ds s hs).go q5 fun i hi q => (w.a4 s hs i hi).2.1 q).go (f2 _) fun i hi => (w.a4 s hs i hi).1
      a1 := fun q => newq kb q rfl
      a2 := w.a2
      a3 := fun i hi q => by
        rcases q8 i hi with z | z
        · exact w.a3 i z q
        · have := w.ss.lt i q; omega
      a4 := fun s hs i hi => ⟨(w.a4 s hs i hi).1, fun q => by
        rcases q8 i q with z | z
        · exact (w.a4 s hs i hi).2.1 z
        · have := (w.ds s hs).lt i hi; omega, (w.a4 s hs i hi).2.2⟩
      a5 := w.a5 }
  · refine ⟨by omega, fun i hi hd => ?_⟩
    rw [put_ne (fun q => hd (.inl q))]
    exact q5.2 i hi fun q => hd (.inr (.inl q))
  · rintro i (q | q | q | q)
    · exact .inl (.inl q)
    · rcases q8 i q with z | z
      · exact .inl (.inr (.inl z))
      · exact .inr z
    · exact .inl (.inr (.inr (.inl q)))
    · exact .inl (.inr (.inr (.inr q)))

theorem KOk.snap (w : KOk h nx kb K) {id id2 : Nat} (h1 : nx ≤ id) (h2 : id < id2) (hg : K.shots.length ≤ 1000) (num made : Int) (kp : Int) :
    ∃ e, srcS (h.put id (some ⟨[.int .i64 num, .int .i64 made, .slice none 0 none], 3, true⟩)) (some (id, 0)) 1 3 = some (1, [.int .i64 num, .int .i64 made, .slice none 0 none], [id]) ∧ appD (h.put id (some ⟨[.int .i64 num, .int .i64 made, .slice none 0 none], 3, true⟩)) K.sa K.shots.length K.sc 3 40 id2 (1, [.int .i64 num, .int .i64 made, .slice none 0 none], [id]) = some e ∧
      ((h.put id (some ⟨[.int .i64 num, .int .i64 made, .slice none 0 none], 3, true⟩)).puts e.sets) kb = some ⟨K.cells, 4, true⟩ ∧ e.n = K.shots.length + 1 ∧
      KOk (((h.put id (some ⟨[.int .i64 num, .int .i64 made, .slice none 0 none], 3, true⟩)).puts e.sets).put kb (some ⟨KR.cells { K with shots := K.shots ++ [⟨num, made, [], none, none⟩], sa := e.a, sc := e.c, kept := kp }, 4, true⟩)) (id2 + 1) kb { K with shots := K.shots ++ [⟨num, made, [], none, none⟩], sa := e.a, sc := e.c, kept := kp } ∧
      Frm (Kown kb K) h nx (((h.put id (some ⟨[.int .i64 num, .int .i64 made, .slice none 0 none], 3, true⟩)).puts e.sets).put kb (some ⟨KR.cells { K with shots := K.shots ++ [⟨num, made, [], none, none⟩], sa := e.a, sc := e.c, kept := kp }, 4, true⟩)) (id2 + 1) ∧
      ∀ i, Kown kb { K with shots := K.shots ++ [⟨num, made, [], none, none⟩], sa := e.a, sc := e.c, kept := kp } i → Kown kb K i ∨ i = id2 := by
  obtain ⟨e, q1, q2, q3, q4, q5, _, q7, q8⟩ := w.ss.push (bytes := 40) (id := id) (id2 := id2) (r := [.int .i64 num, .int .i64 made, .slice none 0 none]) rfl (growOk_of (by rw [List.length_map]; omega) (by omega)) h1 h2
  rw [List.length_map] at q2 q3
  have kbl := w.lt
  have e4 := (q5.2 kb kbl w.a2).trans w.blk
  refine ⟨e, q1, q2, e4, q3, ?_, ?_, ?_⟩
  · generalize (h.put id (some ⟨[.int .i64 num, .int .i64 made, .slice none 0 none], 3, true⟩)).puts e.sets = h4 at *
    have f2 : ∀ b, Frm (fun j => j = kb) h4 (id2 + 1) (h4.put kb b) (id2 + 1) := fun b => ⟨Nat.le_refl _, fun j _ hj => put_ne hj⟩
    have newq : ∀ i, ownOf e.a i → i ≠ kb := fun i hi q => by
      rcases q8 i hi with z | z
      · exact w.a2 (q ▸ z)
      · omega
    exact {
      lt := by omega
      blk := put_same _ _ _
      bs := (w.bs.go q5 fun i hi q => w.a3 i hi q).go (f2 _) fun i hi q => w.a1 (q ▸ hi)
      ss := by
        have := q4.go (f2 (some ⟨KR.cells { K with shots := K.shots ++ [⟨num, made, [], none, none⟩], sa := e.a, sc := e.c, kept := kp }, 4, true⟩)) newq
        rw [show K.shots.map SR.row ++ [[.int .i64 num, .int .i64 made, .slice none 0 none]] = (K.shots ++ [(⟨num, made, [], none, none⟩ : SR)]).map SR.row by simp [SR.row]] at this
        exact this
      ds := fun s hs => by
        rcases List.mem_append.1 hs with hs | hs
        · exact ((w.ds s hs).go q5 fun i hi q => (w.a4 s hs i hi).2.2 q).go (f2 _) fun i hi => (w.a4 s hs i hi).1
        · simp at hs; subst hs; exact Spr.nil _ _ _
      a1 := w.a1
      a2 := fun q => newq kb q rfl
      a3 := fun i hi q => by
        rcases q8 i q with z | z
        · exact w.a3 i hi z
        · have := w.bs.lt i hi; omega
      a4 := fun s hs i hi => by
        rcases List.mem_append.1 hs with hs | hs
        · exact ⟨(w.a4 s hs i hi).1, (w.a4 s hs i hi).2.1, fun q => by
            rcases q8 i q with z | z
            · exact (w.a4 s hs i hi).2.2 z
            · have := (w.ds s hs).lt i hi; omega⟩
        · simp at hs; subst hs; obtain ⟨o, z⟩ := hi; cases z
      a5 := by
        rw [List.pairwise_append]
        refine ⟨w.a5, List.pairwise_singleton _ _, fun s _ t ht b _ hb => ?_⟩
        simp at ht; subst ht; obtain ⟨o, z⟩ := hb; cases z }
  · refine ⟨by omega, fun i hi hd => ?_⟩
    rw [put_ne (fun q => hd (.inl q))]
    exact q5.2 i hi fun q => hd (.inr (.inr (.inl q)))
  · rintro i (q | q | q | ⟨s, hs, q⟩)
    · exact .inl (.inl q)
    · exact .inl (.inr (.inl q))
    · rcases q8 i q with z | z
      · exact .inl (.inr (.inr (.inl z)))
      · exact .inr z
    · rcases List.mem_append.1 hs with hs | hs
      · exact .inl (.inr (.inr (.inr ⟨s, hs, q⟩)))
      · simp at hs; subst hs; obtain ⟨o, z⟩ := q; cases z

end Go.Proofs.Ytaikceooeahfeaa.T
