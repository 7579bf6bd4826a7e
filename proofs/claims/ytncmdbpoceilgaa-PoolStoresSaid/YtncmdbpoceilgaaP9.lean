/- Pools: Play, pooled. -/
import Derived.Test.YtncmdbpoceilgaaP8
set_option linter.unusedVariables false
set_option linter.unusedSimpArgs false
namespace Go.Proofs.Ytncmdbpoceilgaa.T
open Go Go.RowKit Go.Proofs
set_option maxRecDepth 10000

def s0 : Pl := ⟨[], []⟩
theorem s0_ok : s0.Ok := ⟨fun x hx => (by cases hx), (by simp [s0]), fun x hx => (by cases hx), (by simp [s0])⟩
def Small (cmds : List Cmd) : Prop := ∀ c ∈ cmds, c.name.size ≤ 1000 ∧ c.other.size ≤ 1000

theorem play_spec {n : Nat} (hn : 1400 ≤ n) (Y : YldF) {h : AHeap} {nx : Nat} {ca : Option (Nat × Nat)} (cc : Option Nat) {cmds : List Cmd} {A0 : Nat → Prop} (rows : Rows (CmdR h nx A0) h nx A0 ca 8 cmds) (hcl : cmds.length ≤ 300) (hsz : Small cmds) :
    ∃ a ac h' nx', callP Try.prog keepT n Y 17 [.slice ca cmds.length cc] h nx = some (.tuple [.slice a (playP s0 cmds).length ac, .int .i64 0], h', nx') ∧ Ext h nx h' nx' ∧ OwnRows (ToldR h' nx' (ownOf a)) h' nx' a 5 (playP s0 cmds) ∧ ∀ j, ownOf a j → nx ≤ j := by
  obtain ⟨n, rfl⟩ : ∃ m, n = m + 2 := ⟨n - 2, by omega⟩
  rw [F17_eq, if_neg (by simp; omega), F20_eq]
  dsimp only
  rw [some_bind]
  dsimp only
  rw [asP_ptr, some_bind]
  obtain ⟨h1, hh1⟩ : ∃ h1, h1 = AHeap.put (AHeap.put (AHeap.put h (nx + 7 + 1) (some ⟨[], MB, true⟩)) (nx + 7 + 2) (some ⟨[], MB, true⟩)) (nx + 7 + 5) (some ⟨[.mapv (some (nx + 7 + 1)), .mapv (some (nx + 7 + 2)), .slice none 0 none], 3, true⟩) := ⟨_, rfl⟩
  rw [← hh1]
  have x : Ext h nx h1 (nx + 18) := by
    rw [hh1]; exact (((Ext.refl h nx).put (m' := nx) (by omega) (Nat.le_refl _)).put (m' := nx) (by omega) (Nat.le_refl _)).put (by omega) (by omega)
  have p : PM (ownOf none) h1 (nx + 18) (nx + 7 + 5) (nx + 7 + 1) (nx + 7 + 2) s0 := by
    refine ⟨by rw [hh1, put_same], ⟨[], by rw [hh1, put_ne (by omega), put_ne (by omega), put_same], rfl⟩, ⟨[], by rw [hh1, put_ne (by omega), put_same], rfl⟩, by omega, by omega, by omega, by omega, by omega, by omega, fun i hi => ?_⟩
    obtain ⟨o, e⟩ := hi; cases e
  obtain ⟨a, ac, h', nx', g1, g2, g3, g4⟩ := play_loop (n := n + 1) (lf := n + 1) (S := nx + 7 + 5) (k := nx + 7 + 2) (by omega) Y cc rows hcl hsz (by omega) (by omega) cmds.length (n + 1) 0 h1 (nx + 18) (nx + 7 + 1) none none s0 [] (by omega) (by omega) x p s0_ok (by omega)
    (OwnRows.nil _ _ _ _) (fun j ⟨o, e⟩ => by cases e) rfl
  rw [List.nil_append, List.drop_zero] at g1 g3
  exact ⟨a, ac, h', nx', g1, g2, g3, g4⟩

theorem pooled_spec {n : Nat} (hn : 1500 ≤ n) (Y : YldF) {h : AHeap} {nx : Nat} {ca : Option (Nat × Nat)} (cc : Option Nat) {cmds : List Cmd} {A0 : Nat → Prop} (rows : Rows (CmdR h nx A0) h nx A0 ca 8 cmds) (hcl : cmds.length ≤ 300) (hsz : Small cmds) :
    ∃ a ac h' nx', callP Try.prog keepT n Y 11 [.slice ca cmds.length cc] h nx = some (.tuple [.slice a (playP s0 cmds).length ac, .bool true], h', nx') ∧ Ext h nx h' nx' ∧ OwnRows (ToldR h' nx' (ownOf a)) h' nx' a 5 (playP s0 cmds) ∧ ∀ j, ownOf a j → nx ≤ j := by
  obtain ⟨n, rfl⟩ : ∃ m, n = m + 1 := ⟨n - 1, by omega⟩
  obtain ⟨rs, q, len, s, _⟩ := rows
  obtain ⟨rd, e1⟩ := s.src'
  rw [F11_eq, e1, some_bind]
  obtain ⟨e, f1, f2, f3, f4⟩ := copyOf (h := h) (nx := nx) (bytes := 96) (id := nx + 3) (rd := rd) s.1 (growOk_of (by omega) (by omega)) (by omega)
  rw [f1, some_bind]
  dsimp only
  rw [f2]
  have x : Ext h nx (h.puts e.sets) (nx + 10) := f4.le (by omega)
  have rows2 : Rows (CmdR (h.puts e.sets) (nx + 10) fun _ => False) (h.puts e.sets) (nx + 10) (fun _ => False) e.a 8 cmds :=
    ⟨rs, q.mono fun c r b => b.go (x.fr fun _ => False) (fun _ _ q => q.elim) (fun _ _ q => q.elim), len, (f3.le (by omega : nx + 3 + 1 ≤ nx + 10)).sl, fun _ _ _ q => q⟩
  obtain ⟨a, ac, h', nx', g1, g2, g3, g4⟩ := play_spec (n := n) (by omega) Y e.c rows2 hcl hsz
  rw [g1]
  simp only [mst_, mst5_]
  rw [if_pos (by rfl), playP_len]
  refine ⟨a, ac, h', nx' + 12, ?_, (x.trans (g2.from (Nat.le_refl _))).le (by omega), ?_, fun j hj => by have := g4 j hj; omega⟩
  · simp
  · exact g3.go (D := fun _ => False) ⟨by omega, fun _ _ _ => rfl⟩ (fun _ _ q => q) fun t r q => q.go (D := fun _ => False) ⟨by omega, fun _ _ _ => rfl⟩ (fun _ _ q => q.elim) fun _ _ q => q
end Go.Proofs.Ytncmdbpoceilgaa.T
