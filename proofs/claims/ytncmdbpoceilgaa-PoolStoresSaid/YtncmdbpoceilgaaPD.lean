/- Pools: what is refused changes nothing. -/
import Derived.Test.YtncmdbpoceilgaaPC
set_option linter.unusedVariables false
set_option linter.unusedSimpArgs false
namespace Go.Proofs.Ytncmdbpoceilgaa.T
open Go Go.RowKit Go.Proofs
set_option maxRecDepth 10000

/-! ### the plain law -/
theorem object_refused {s : Pl} {x : List Int} {c : Cmd} (h : (objectP s x c).1.code ≠ 0) : (objectP s x c).2 = s := by
  unfold objectP at *
  split at h
  · rw [if_pos (by assumption)]
  rename_i q3; rw [if_neg q3]
  split at h
  · exact absurd rfl h
  rename_i q5; rw [if_neg q5]
  split at h
  · rename_i q2; rw [if_pos q2]
    split at h
    · rw [if_pos (by assumption)]
    rename_i a1; rw [if_neg a1]
    split at h
    · rw [if_pos (by assumption)]
    rename_i a2; rw [if_neg a2]
    split at h
    · rw [if_pos (by assumption)]
    rename_i a3; rw [if_neg a3]
    split at h
    · rw [if_pos (by assumption)]
    · exact absurd rfl h
  · rename_i q2; rw [if_neg q2]
    split at h
    · rw [if_pos (by assumption)]
    rename_i a1; rw [if_neg a1]
    split at h
    · rw [if_pos (by assumption)]
    · exact absurd rfl h
theorem snap_refused {s : Pl} {c : Cmd} (h : (snapP s c).1.code ≠ 0) : (snapP s c).2 = s := by
  unfold snapP at *
  split at h
  · rename_i q; rw [if_pos q]
    dsimp only at *
    split at h
    · rename_i e; exact absurd e h
    · rename_i e; rw [if_neg e]
  · rename_i q; rw [if_neg q]
    cases hg : getO c.other s.snaps with
    | none => rfl
    | some l =>
      rw [hg] at h
      dsimp only at *
      split at h
      · exact absurd rfl h
      rename_i q9; rw [if_neg q9]
      split at h
      · exact absurd rfl h
      rename_i q10; rw [if_neg q10]
      cases getO c.name l <;> rfl
theorem step_refused {s : Pl} {c : Cmd} (h : (stepP s c).1.code ≠ 0) : (stepP s c).2 = s := by
  unfold stepP at *
  split at h
  · rename_i q; rw [if_pos q]
    dsimp only at *
    split at h
    · exact absurd rfl h
    · rename_i e; rw [if_neg e]
  rename_i q1; rw [if_neg q1]
  split at h
  · rw [if_pos (by assumption)]
  rename_i q6; rw [if_neg q6]
  split at h
  · rw [if_pos (by assumption)]
  rename_i q11; rw [if_neg q11]
  split at h
  · rename_i q; rw [if_pos q]; exact snap_refused h
  rename_i qs; rw [if_neg qs]
  split at h
  · rename_i q; rw [if_pos q]
    cases hg : getO c.name s.obj with
    | none => rfl
    | some x => rw [hg] at h; exact object_refused h
  rename_i qo; rw [if_neg qo]
  split <;> rfl
def okPairs (l : List Cmd) (t : List Tld) : List (Cmd × Tld) := (l.zip t).filter fun p => p.2.code == 0
theorem few_play : ∀ (l : List Cmd) (s : Pl), playP s ((okPairs l (playP s l)).map (·.1)) = (okPairs l (playP s l)).map (·.2)
  | [], s => rfl
  | c :: l, s => by
    unfold okPairs
    rw [playP, List.zip_cons_cons, List.filter_cons]
    by_cases h : (stepP s c).1.code = 0
    · rw [if_pos (by simpa using h)]
      simp only [List.map_cons, playP]
      exact congrArg _ (few_play l (stepP s c).2)
    · rw [if_neg (by simpa using h), step_refused h]
      exact few_play l s

/-- What is told is not long. -/
theorem fetch_small {x : List Int} (h : x.length ≤ 1024) (c : Cmd) : (fetchP x c).data.length ≤ 2000 ∧ (fetchP x c).names.length ≤ 2000 := by
  unfold fetchP
  split
  · simp [noT]
  split
  · simp [noT]
  · simp; omega
theorem step_small {s : Pl} (w : s.Ok) (c : Cmd) : (stepP s c).1.data.length ≤ 2000 ∧ (stepP s c).1.names.length ≤ 2000 := by
  have hno : ∀ e, (noT e).data.length ≤ 2000 ∧ (noT e).names.length ≤ 2000 := fun e => by simp [noT]
  unfold stepP
  split
  · dsimp only
    split <;> exact hno _
  split
  · have := w.olen
    refine ⟨by simp, ?_⟩
    show (sortS _).length ≤ 2000
    rw [sortS_len]; simp; omega
  split
  · have := w.slen
    refine ⟨by simp, ?_⟩
    show (sortS _).length ≤ 2000
    rw [sortS_len]; simp; omega
  split
  · unfold snapP
    split
    · dsimp only
      split <;> exact hno _
    · cases hg : getO c.other s.snaps with
      | none => exact hno _
      | some l =>
        dsimp only
        split
        · exact hno _
        split
        · exact hno _
        cases hx : getO c.name l with
        | none => exact hno _
        | some x => exact fetch_small ((w.snaps _ (getO_mem hg)).2.1 _ (getO_mem hx)).2 c
  split
  · cases hg : getO c.name s.obj with
    | none => exact hno _
    | some x =>
      dsimp only
      unfold objectP
      split
      · exact fetch_small (w.obj _ (getO_mem hg)).2 c
      split
      · exact hno _
      split
      · split
        · exact hno _
        split
        · exact hno _
        split
        · exact hno _
        split
        · exact hno _
        · simp
      · split
        · exact hno _
        split
        · exact hno _
        · simp
  split <;> exact hno _
theorem play_small : ∀ (l : List Cmd) {s : Pl} (_ : s.Ok), ∀ t ∈ playP s l, t.data.length ≤ 2000 ∧ t.names.length ≤ 2000
  | [], _, _, t, h => by cases h
  | c :: l, s, w, t, h => by
    rcases List.mem_cons.1 h with rfl | h
    · exact step_small w c
    · exact play_small l (step_ok w c) t h

/-! ### the walk -/
theorem same_loop {n lf : Nat} (hn : 5000 ≤ n) (Y : YldF) {h0 : AHeap} {n0 : Nat} {a b : Option (Nat × Nat)} (ac bc : Option Nat) {ts : List Tld} {A1 A2 B1 B2 : Nat → Prop} (wa : Rows (ToldR h0 n0 A1) h0 n0 B1 a 5 ts) (wb : Rows (ToldR h0 n0 A2) h0 n0 B2 b 5 ts) (hl : ts.length ≤ 300) (hs : ∀ t ∈ ts, t.data.length ≤ 2000 ∧ t.names.length ≤ 2000) :
    ∀ (k n1 i : Nat) (h : AHeap) (nx : Nat), ts.length = i + k → k < n1 → Ext h0 n0 h nx → ∃ h' nx', F6_L3 (callP Try.prog keepT n) Y lf n1 a ts.length ac b ts.length bc (i : Int) h nx = some (.bool true, h', nx') ∧ Ext h0 n0 h' nx'
  | 0, n1 + 1, i, h, nx, hk, _, x => by
    rw [F6_L3_eq, if_neg (by simp; omega)]; exact ⟨_, _, rfl, x.le (by omega)⟩
  | k + 1, n1 + 1, i, h, nx, hk, hn1, x => by
    have hi : i < ts.length := by omega
    have hg : ts[i]? = some ts[i] := List.getElem?_eq_getElem hi
    have hm := hs ts[i] (List.getElem_mem hi)
    have go : ∀ {A B : Nat → Prop} {u : Option (Nat × Nat)}, Rows (ToldR h0 n0 A) h0 n0 B u 5 ts → Rows (ToldR h nx fun _ => False) h nx (fun _ => False) u 5 ts := fun w => w.go (x.fr fun _ => False) (fun _ _ q => q.elim) (fun _ _ q => q.elim) fun _ _ r => r.go (x.fr fun _ => False) (fun _ _ q => q.elim) (fun _ _ q => q.elim)
    obtain ⟨r1, t1, _, d1, _⟩ := (go wa).read (R := AV × AHeap × Nat) hg
    obtain ⟨r2, t2, _, d2, _⟩ := (go wb).read (R := AV × AHeap × Nat) hg
    have e0 : Ext h nx h (nx + 14) := (Ext.refl h nx).le (by omega)
    obtain ⟨h', nx', g1, g2⟩ := same_told hn Y (t2.go (e0.fr fun _ => False) (fun _ _ q => q.elim) (fun _ _ q => q)) (t1.go (e0.fr fun _ => False) (fun _ _ q => q.elim) (fun _ _ q => q)) hm.1 hm.2
    obtain ⟨_, _, rfl, ⟨_, _, rfl, _⟩, ⟨_, _, rfl, _⟩⟩ := t1
    obtain ⟨_, _, rfl, ⟨_, _, rfl, _⟩, ⟨_, _, rfl, _⟩⟩ := t2
    rw [F6_L3_eq, if_pos (by simp; omega), d2]
    simp only [mst_, mst5_]
    rw [d1]
    simp only [mst_, mst5_]
    rw [g1]
    simp only [mst_, mst5_]
    rw [wsucc (by omega)]
    exact same_loop (lf := lf) hn Y ac bc wa wb hl hs k n1 (i + 1) h' (nx' + 3) (by omega) (by omega) ⟨by have := x.1; have := g2.1; omega, fun j hj => (g2.2 j (by have := x.1; omega)).trans (x.2 j hj)⟩
end Go.Proofs.Ytncmdbpoceilgaa.T
