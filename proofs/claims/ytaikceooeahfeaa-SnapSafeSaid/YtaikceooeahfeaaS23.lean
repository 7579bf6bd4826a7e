/- Snaps: SnapSafe, the law's lists grow. -/
import Derived.Test.YtaikceooeahfeaaS22
set_option linter.unusedVariables false
set_option linter.unusedSimpArgs false
namespace Go.Proofs.Ytaikceooeahfeaa.T
open Go Go.RowKit Go.Proofs

variable {h0 h : AHeap} {n0 nx : Nat} {lives goneL : List Bool} {T : List (Int × Bool)} {S : List (List Bool)} {x6a x7a x8a x9a : Option (Nat × Nat)} {x6c x7c x8c x9c : Option Nat}

theorem SM.push6 (w : SM h0 n0 h nx lives goneL T S x6a x7a x8a x9a x6c x7c x8c x9c) {id id2 : Nat} (h1 : nx ≤ id) (h2 : id < id2) (hl : lives.length ≤ 1000) (b : Bool) :
    ∃ e, srcS (h.put id (some ⟨[.bool b], 1, true⟩)) (some (id, 0)) 1 1 = some (1, [.bool b], [id]) ∧ appD (h.put id (some ⟨[.bool b], 1, true⟩)) x6a lives.length x6c 1 1 id2 (1, [.bool b], [id]) = some e ∧ e.n = (lives ++ [b]).length ∧
      SM h0 n0 ((h.put id (some ⟨[.bool b], 1, true⟩)).puts e.sets) (id2 + 1) (lives ++ [b]) goneL T S e.a x7a x8a x9a e.c x7c x8c x9c := by
  obtain ⟨e, q1, q2, q3, q4, q5, _, _, q8⟩ := w.l.push (bytes := 1) (id := id) (id2 := id2) (r := brw1 b) rfl (growOk_of (by rw [List.length_map]; omega) (by omega)) h1 h2
  rw [List.length_map] at q2 q3
  rw [show lives.map brw1 ++ [brw1 b] = (lives ++ [b]).map brw1 by simp] at q4
  refine ⟨e, q1, q2, by rw [q3]; simp, ?_⟩
  obtain ⟨rows, s1, s2⟩ := w.s
  have hx := w.x.1
  have g7 := w.g.lt
  have g8 := s1.lt
  have g9 := w.t.lt
  exact {
    l := q4
    g := w.g.go q5 fun j hj q => (w.a6 j q).1 hj
    t := w.t.go q5 fun j hj q => (w.a6 j q).2.2 hj
    s := ⟨rows, s1.go q5 fun j hj q => (w.a6 j q).2.1 hj, s2.mono fun l r q => q.go q5 (fun j _ z => .inl z) fun j hj z => by
      rcases z with z | z
      · rcases q8 j z with y | y
        · exact .inl y
        · omega
      · exact .inr z⟩
    a6 := fun j hj => by
      rcases q8 j hj with y | y
      · exact w.a6 j y
      · exact ⟨fun z => by have := g7 j z; omega, fun z => by have := g8 j z; omega, fun z => by have := g9 j z; omega⟩
    a7 := w.a7
    a8 := w.a8
    low := fun j hj => by
      rcases hj with z | z
      · rcases q8 j z with y | y
        · exact w.low j (.inl y)
        · omega
      · exact w.low j (.inr z)
    x := ⟨by omega, fun j hj => (q5.2 j (by omega) (fun q => by have := w.low j (.inl q); omega)).trans (w.x.2 j hj)⟩ }

theorem SM.push7 (w : SM h0 n0 h nx lives goneL T S x6a x7a x8a x9a x6c x7c x8c x9c) {id id2 : Nat} (h1 : nx ≤ id) (h2 : id < id2) (hl : goneL.length ≤ 1000) (b : Bool) :
    ∃ e, srcS (h.put id (some ⟨[.bool b], 1, true⟩)) (some (id, 0)) 1 1 = some (1, [.bool b], [id]) ∧ appD (h.put id (some ⟨[.bool b], 1, true⟩)) x7a goneL.length x7c 1 1 id2 (1, [.bool b], [id]) = some e ∧ e.n = (goneL ++ [b]).length ∧
      SM h0 n0 ((h.put id (some ⟨[.bool b], 1, true⟩)).puts e.sets) (id2 + 1) lives (goneL ++ [b]) T S x6a e.a x8a x9a x6c e.c x8c x9c := by
  obtain ⟨e, q1, q2, q3, q4, q5, _, _, q8⟩ := w.g.push (bytes := 1) (id := id) (id2 := id2) (r := brw1 b) rfl (growOk_of (by rw [List.length_map]; omega) (by omega)) h1 h2
  rw [List.length_map] at q2 q3
  rw [show goneL.map brw1 ++ [brw1 b] = (goneL ++ [b]).map brw1 by simp] at q4
  refine ⟨e, q1, q2, by rw [q3]; simp, ?_⟩
  obtain ⟨rows, s1, s2⟩ := w.s
  have hx := w.x.1
  have g6 := w.l.lt
  have g8 := s1.lt
  have g9 := w.t.lt
  exact {
    l := w.l.go q5 fun j hj q => (w.a6 j hj).1 q
    g := q4
    t := w.t.go q5 fun j hj q => (w.a7 j q).2 hj
    s := ⟨rows, s1.go q5 fun j hj q => (w.a7 j q).1 hj, s2.mono fun l r q => q.go q5 (fun j _ z => .inr (.inl z)) fun j hj z => by
      rcases z with z | z | z
      · exact .inl z
      · rcases q8 j z with y | y
        · exact .inr (.inl y)
        · omega
      · exact .inr (.inr z)⟩
    a6 := fun j hj => ⟨fun z => by
      rcases q8 j z with y | y
      · exact (w.a6 j hj).1 y
      · have := g6 j hj; omega, (w.a6 j hj).2⟩
    a7 := fun j hj => by
      rcases q8 j hj with y | y
      · exact w.a7 j y
      · exact ⟨fun z => by have := g8 j z; omega, fun z => by have := g9 j z; omega⟩
    a8 := w.a8
    low := fun j hj => by
      rcases hj with z | z | z
      · exact w.low j (.inl z)
      · rcases q8 j z with y | y
        · exact w.low j (.inr (.inl y))
        · omega
      · exact w.low j (.inr (.inr z))
    x := ⟨by omega, fun j hj => (q5.2 j (by omega) (fun q => by have := w.low j (.inr (.inl q)); omega)).trans (w.x.2 j hj)⟩ }

theorem SM.push9 (w : SM h0 n0 h nx lives goneL T S x6a x7a x8a x9a x6c x7c x8c x9c) {id id2 : Nat} (h1 : nx ≤ id) (h2 : id < id2) (hl : T.length ≤ 1000) (x : Int × Bool) :
    ∃ e, srcS (h.put id (some ⟨[.bool x.2], 1, true⟩)) (some (id, 0)) 1 1 = some (1, [.bool x.2], [id]) ∧ appD (h.put id (some ⟨[.bool x.2], 1, true⟩)) x9a T.length x9c 1 1 id2 (1, [.bool x.2], [id]) = some e ∧ e.n = (T ++ [x]).length ∧
      SM h0 n0 ((h.put id (some ⟨[.bool x.2], 1, true⟩)).puts e.sets) (id2 + 1) lives goneL (T ++ [x]) S x6a x7a x8a e.a x6c x7c x8c e.c := by
  obtain ⟨e, q1, q2, q3, q4, q5, _, _, q8⟩ := w.t.push (bytes := 1) (id := id) (id2 := id2) (r := brw1 x.2) rfl (growOk_of (by rw [List.length_map, List.length_map]; omega) (by omega)) h1 h2
  rw [List.length_map, List.length_map] at q2 q3
  rw [show (T.map (·.2)).map brw1 ++ [brw1 x.2] = ((T ++ [x]).map (·.2)).map brw1 by simp] at q4
  refine ⟨e, q1, q2, by rw [q3]; simp, ?_⟩
  obtain ⟨rows, s1, s2⟩ := w.s
  have hx := w.x.1
  have g6 := w.l.lt
  have g7 := w.g.lt
  have g8 := s1.lt
  exact {
    l := w.l.go q5 fun j hj q => (w.a6 j hj).2.2 q
    g := w.g.go q5 fun j hj q => (w.a7 j hj).2 q
    t := q4
    s := ⟨rows, s1.go q5 fun j hj q => w.a8 j hj q, s2.mono fun l r q => q.go q5 (fun j _ z => .inr (.inr (.inr z))) fun j hj z => by
      rcases z with z | z | z | z
      · exact .inl z
      · exact .inr (.inl z)
      · exact .inr (.inr (.inl z))
      · rcases q8 j z with y | y
        · exact .inr (.inr (.inr y))
        · omega⟩
    a6 := fun j hj => ⟨(w.a6 j hj).1, (w.a6 j hj).2.1, fun z => by
      rcases q8 j z with y | y
      · exact (w.a6 j hj).2.2 y
      · have := g6 j hj; omega⟩
    a7 := fun j hj => ⟨(w.a7 j hj).1, fun z => by
      rcases q8 j z with y | y
      · exact (w.a7 j hj).2 y
      · have := g7 j hj; omega⟩
    a8 := fun j hj z => by
      rcases q8 j z with y | y
      · exact w.a8 j hj y
      · have := g8 j hj; omega
    low := fun j hj => by
      rcases hj with z | z | z | z
      · exact w.low j (.inl z)
      · exact w.low j (.inr (.inl z))
      · exact w.low j (.inr (.inr (.inl z)))
      · rcases q8 j z with y | y
        · exact w.low j (.inr (.inr (.inr y)))
        · omega
    x := ⟨by omega, fun j hj => (q5.2 j (by omega) (fun q => by have := w.low j (.inr (.inr (.inr q))); omega)).trans (w.x.2 j hj)⟩ }

end Go.Proofs.Ytaikceooeahfeaa.T
