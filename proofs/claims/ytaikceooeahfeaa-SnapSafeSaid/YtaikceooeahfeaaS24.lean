/- Snaps: SnapSafe, a snapshot of the law's own. -/
import Derived.Test.YtaikceooeahfeaaS23
set_option linter.unusedVariables false
set_option linter.unusedSimpArgs false
namespace Go.Proofs.Ytaikceooeahfeaa.T
open Go Go.RowKit Go.Proofs

variable {h0 h : AHeap} {n0 nx : Nat} {lives goneL : List Bool} {T : List (Int × Bool)} {S : List (List Bool)} {x6a x7a x8a x9a : Option (Nat × Nat)} {x6c x7c x8c x9c : Option Nat}

theorem SM.push8 (w : SM h0 n0 h nx lives goneL T S x6a x7a x8a x9a x6c x7c x8c x9c) {i0 : Nat} (h1 : nx ≤ i0) (hl : lives.length ≤ 1000) (hS : S.length ≤ 1000) :
    ∃ rd e25 e29, srcS h x6a lives.length 1 = some (lives.length, (lives.map brw1).flatten, rd) ∧ appD h none 0 none 1 1 i0 (lives.length, (lives.map brw1).flatten, rd) = some e25 ∧
      srcS ((h.puts e25.sets).put (i0 + 1) (some ⟨[.slice e25.a e25.n e25.c], 1, true⟩)) (some (i0 + 1, 0)) 1 1 = some (1, [.slice e25.a e25.n e25.c], [i0 + 1]) ∧ appD ((h.puts e25.sets).put (i0 + 1) (some ⟨[.slice e25.a e25.n e25.c], 1, true⟩)) x8a S.length x8c 1 24 (i0 + 2) (1, [.slice e25.a e25.n e25.c], [i0 + 1]) = some e29 ∧ e29.n = (S ++ [lives]).length ∧
      SM h0 n0 (((h.puts e25.sets).put (i0 + 1) (some ⟨[.slice e25.a e25.n e25.c], 1, true⟩)).puts e29.sets) (i0 + 3) lives goneL T (S ++ [lives]) x6a x7a e29.a x9a x6c x7c e29.c x9c := by
  have lsl := w.l.sl
  rw [List.length_map] at lsl
  obtain ⟨rd, src⟩ := lsl.src'
  obtain ⟨e25, p1, p2, p3, p4⟩ := copyOf (h := h) (nx := nx) (n := lives.length) (es := 1) (bytes := 1) (id := i0) (vs := (lives.map brw1).flatten) (rd := rd) lsl.1 (growOk_of (by omega) (by omega)) h1
  generalize hh1 : h.puts e25.sets = h1' at *
  obtain ⟨rows, s1, s2⟩ := w.s
  have g6 := w.l.lt
  have g7 := w.g.lt
  have g8 := s1.lt
  have g9 := w.t.lt
  have fr1 := p4.fr fun _ => False
  have s1' := s1.go fr1 fun _ _ q => q
  obtain ⟨e29, q1, q2, q3, q4, q5, _, _, q8⟩ := s1'.push (bytes := 24) (id := i0 + 1) (id2 := i0 + 2) (r := [.slice e25.a e25.n e25.c]) rfl (growOk_of (by rw [s2.len]; omega) (by omega)) (by omega) (by omega)
  rw [s2.len] at q2 q3
  refine ⟨rd, e25, e29, src, p1, by rw [hh1]; exact q1, by rw [hh1]; exact q2, by rw [q3]; simp, ?_⟩
  rw [hh1]
  have hx := w.x.1
  have fr2 : Frm (ownOf x8a) h nx ((h1'.put (i0 + 1) (some ⟨[.slice e25.a e25.n e25.c], 1, true⟩)).puts e29.sets) (i0 + 3) := ⟨by omega, fun j hj hk => (q5.2 j (by omega) hk).trans (p4.2 j hj)⟩
  exact {
    l := w.l.go fr2 fun j hj q => (w.a6 j hj).2.1 q
    g := w.g.go fr2 fun j hj q => (w.a7 j hj).1 q
    t := w.t.go fr2 fun j hj q => w.a8 j q hj
    s := by
      have A4 : ∀ j, j < nx → own4 x6a x7a e29.a x9a j → own4 x6a x7a x8a x9a j := fun j hj z => by
        rcases z with z | z | z | z
        · exact .inl z
        · exact .inr (.inl z)
        · rcases q8 j z with y | y
          · exact .inr (.inr (.inl y))
          · omega
        · exact .inr (.inr (.inr z))
      have newlt : ∀ j, own4 x6a x7a x8a x9a j → j < nx := fun j z => by
        rcases z with z | z | z | z
        · exact g6 j z
        · exact g7 j z
        · exact g8 j z
        · exact g9 j z
      refine ⟨_, q4, (s2.mono fun l r q => q.go fr2 (fun j _ z => .inr (.inr (.inl z))) A4).append (All2.one ⟨e25.a, e25.c, by rw [p2], ?_, ?_⟩)⟩
      · refine Sl.fr (D := ownOf x8a) p3.sl (fun hn p e z => ?_) ⟨by have := q5.1; omega, fun j hj hk => q5.2 j hj hk⟩
        rcases p3.2 with ⟨_, y⟩ | ⟨i, y1, y2, _, _⟩
        · omega
        · rw [y1] at e; cases e
          have := g8 _ z
          simp only at this; omega
      · intro hn p e z
        rcases p3.2 with ⟨_, y⟩ | ⟨i, y1, y2, y3, _⟩
        · omega
        · rw [y1] at e; cases e
          simp only at z
          rcases z with z | z | z | z
          · have := g6 _ z; omega
          · have := g7 _ z; omega
          · rcases q8 _ z with y | y
            · have := g8 _ y; omega
            · omega
          · have := g9 _ z; omega
    a6 := fun j hj => ⟨(w.a6 j hj).1, fun z => by
      rcases q8 j z with y | y
      · exact (w.a6 j hj).2.1 y
      · have := g6 j hj; omega, (w.a6 j hj).2.2⟩
    a7 := fun j hj => ⟨fun z => by
      rcases q8 j z with y | y
      · exact (w.a7 j hj).1 y
      · have := g7 j hj; omega, (w.a7 j hj).2⟩
    a8 := fun j hj z => by
      rcases q8 j hj with y | y
      · exact w.a8 j y z
      · have := g9 j z; omega
    low := fun j hj => by
      rcases hj with z | z | z | z
      · exact w.low j (.inl z)
      · exact w.low j (.inr (.inl z))
      · rcases q8 j z with y | y
        · exact w.low j (.inr (.inr (.inl y)))
        · omega
      · exact w.low j (.inr (.inr (.inr z)))
    x := ⟨by omega, fun j hj => (fr2.2 j (by omega) (fun q => by have := w.low j (.inr (.inr (.inl q))); omega)).trans (w.x.2 j hj)⟩ }

end Go.Proofs.Ytaikceooeahfeaa.T
