/- Snaps: SnapSafe, the loop over the snapshots. -/
import Derived.Test.YtaikceooeahfeaaS19
set_option linter.unusedVariables false
set_option linter.unusedSimpArgs false
namespace Go.Proofs.Ytaikceooeahfeaa.T
open Go Go.RowKit Go.Proofs

/-- A list of truths that a slice holds. -/
def Bl (h : AHeap) (nx : Nat) (A : Nat → Prop) (l : List Bool) (r : List AV) : Prop :=
  ∃ a c, r = [.slice a l.length c] ∧ Sl h nx a l.length 1 (l.map brw1).flatten ∧ Av A a l.length
theorem Bl.go {h h' : AHeap} {nx nx' : Nat} {A A' D : Nat → Prop} {l : List Bool} {r : List AV} (b : Bl h nx A l r) (f : Frm D h nx h' nx') (d : ∀ i, i < nx → D i → A i) (g : ∀ i, i < nx → A' i → A i) : Bl h' nx' A' l r := by
  obtain ⟨a, c, e, s, v⟩ := b
  have v' : Av D a l.length := v.go s d
  exact ⟨a, c, e, s.fr v' f, v.go s g⟩
theorem brw1_get {l : List Bool} {i : Nat} {b : Bool} (h : l[i]? = some b) : (l.map brw1).flatten[i * 1]? = some (.bool b) := by
  have := flat_get (rows := l.map brw1) (es := 1) (i := i) (f := 0) (r := brw1 b) (fun r hr => by obtain ⟨u, _, rfl⟩ := List.mem_map.1 hr; rfl) (by rw [List.getElem?_map, h]; rfl) (by omega)
  rw [Nat.add_zero] at this
  rw [this]; rfl

theorem safe_l7 {f lf n0 n1 : Nat} {Y : YldF} {P : Option Res → Prop} {x3a x4a x6a x7a x8a x9a : Option (Nat × Nat)} {x3n x4n x6n x7n : Nat} {x3c x4c x6c x7c x8c x9c : Option Nat} {x10 x11 : Int} {b : Nat} {T : List (Int × Bool)} {S : List (List Bool)} (hT : T.length ≤ 1000) (hST : S.length = T.length) {h : AHeap} {nb : Nat} {A : Nat → Prop} {rows : List (List AV)}
    (hQ : All2 (fun l r => Bl h nb A l r) S rows) (s8 : Sl h nb x8a S.length 1 rows.flatten) (s9 : Sl h nb x9a T.length 1 ((T.map (·.2)).map brw1).flatten)
    (ok : ∀ (s : Nat) (m : Int) (l : List Bool), T[s]? = some (m, true) → S[s]? = some l → l[b]? ≠ some true)
    (next : ∀ (n2 nx : Nat), nb ≤ nx → P (F3_L7 (callP Try.prog keepT f) Y lf n0 n1 (n2 + 1) x3a x3n x3c x4a x4n x4c x6a x6n x6c x7a x7n x7c x8a S.length x8c x9a T.length x9c x10 x11 (b : Int) ((S.length : Nat) : Int) h nx)) (d : Nat) :
    ∀ (n2 j nx : Nat), j + d = S.length → d < n2 → nb ≤ nx → P (F3_L7 (callP Try.prog keepT f) Y lf n0 n1 n2 x3a x3n x3c x4a x4n x4c x6a x6n x6c x7a x7n x7c x8a S.length x8c x9a T.length x9c x10 x11 (b : Int) (j : Int) h nx) := by
  induction d with
  | zero =>
    intro n2 j nx e hl hnx
    obtain ⟨n2, rfl⟩ : ∃ m, n2 = m + 1 := ⟨n2 - 1, by omega⟩
    obtain rfl : j = S.length := by omega
    exact next n2 nx hnx
  | succ d ih =>
    intro n2 j nx e hl hnx
    obtain ⟨n2, rfl⟩ : ∃ m, n2 = m + 1 := ⟨n2 - 1, by omega⟩
    have hj : j < S.length := by omega
    have hjT : j < T.length := by omega
    have c9 := brw1_get (l := T.map (·.2)) (i := j) (b := T[j].2) (by simp [hjT])
    rw [F3_L7_eq, if_pos (decide_eq_true (by omega)), s9.read0 (i := (j : Int)) (v := .bool T[j].2) (by omega) (by omega) (by omega) (by rw [Int.toNat_natCast]; exact c9)]
    simp only [mst_]
    rw [wsucc (i := j) (by omega)]
    cases hb : T[j].2 with
    | false =>
      rw [if_neg (by decide)]
      exact ih n2 (j + 1) (nx + 29) (by omega) (by omega) (by omega)
    | true =>
      have hTj : T[j]? = some (T[j].1, true) := by rw [List.getElem?_eq_getElem hjT, ← hb]
      have hSj : S[j]? = some S[j] := List.getElem?_eq_getElem hj
      obtain ⟨r, hr, a, c, rfl, sl, _⟩ := hQ.get j S[j] hSj
      have c8 : rows.flatten[j * 1]? = some (.slice a S[j].length c) := by
        have hlen : ∀ r ∈ rows, r.length = 1 := fun r hr => by
          obtain ⟨q, hq⟩ := List.getElem?_of_mem hr
          have hql := (List.getElem?_eq_some_iff.1 hq).1
          rw [hQ.len] at hql
          obtain ⟨r', h1, a', c', h2, _⟩ := hQ.get q S[q] (List.getElem?_eq_getElem hql)
          rw [hq] at h1; obtain rfl := Option.some.inj h1
          rw [h2]; rfl
        have := flat_get (rows := rows) (es := 1) (i := j) (f := 0) hlen hr (by omega)
        rw [Nat.add_zero] at this
        rw [this]; rfl
      rw [if_pos rfl, s8.read0 (i := (j : Int)) (by omega) (by omega) (by omega) (by rw [Int.toNat_natCast]; exact c8)]
      simp only [mst_]
      by_cases cb : b < S[j].length
      · rw [if_pos (decide_eq_true (by omega)), s8.read0 (i := (j : Int)) (by omega) (by omega) (by omega) (by rw [Int.toNat_natCast]; exact c8)]
        simp only [mst_]
        have hv : S[j][b]? = some S[j][b] := List.getElem?_eq_getElem cb
        have hf : S[j][b] = false := by
          have := ok j _ _ hTj hSj
          rw [hv] at this
          cases hz : S[j][b] with
          | false => rfl
          | true => rw [hz] at this; exact absurd rfl this
        rw [sl.read0 (i := (b : Int)) (v := .bool S[j][b]) (by omega) (by omega) (by omega) (by rw [Int.toNat_natCast]; exact brw1_get hv)]
        simp only [mst_]
        rw [hf, if_neg (by decide)]
        exact ih n2 (j + 1) (nx + 29) (by omega) (by omega) (by omega)
      · rw [if_neg (by rw [decide_eq_true_eq]; omega)]
        exact ih n2 (j + 1) (nx + 29) (by omega) (by omega) (by omega)

end Go.Proofs.Ytaikceooeahfeaa.T
