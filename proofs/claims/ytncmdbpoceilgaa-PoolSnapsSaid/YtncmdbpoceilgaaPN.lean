import Derived.Test.YtncmdbpoceilgaaPI
set_option linter.unusedVariables false
set_option linter.unusedSimpArgs false
/- Pools: plain law of snapshots. -/
namespace Go.Proofs.Ytncmdbpoceilgaa.T
open Go Go.RowKit Go.Proofs
set_option maxRecDepth 10000
variable {β : Type}

theorem delO_sub (k : ByteArray) : ∀ l : List (ByteArray × β), (delO k l).Sublist l
  | [] => List.Sublist.slnil
  | p :: l => by
    unfold delO
    split
    · exact List.sublist_cons_self _ _
    · exact (delO_sub k l).cons_cons _
theorem delO_not {k : ByteArray} : ∀ {l : List (ByteArray × β)}, (l.map (·.1)).Nodup → k ∉ (delO k l).map (·.1)
  | [], _ => by simp [delO]
  | p :: l, h => by
    rw [List.map_cons, List.nodup_cons] at h
    unfold delO
    by_cases q : p.1 = k
    · rw [if_pos q, ← q]; exact h.1
    · rw [if_neg q, List.map_cons, List.mem_cons, not_or]
      exact ⟨fun e => q e.symm, delO_not h.2⟩
theorem getO_none {k : ByteArray} : ∀ {l : List (ByteArray × β)}, getO k l = none ↔ k ∉ l.map (·.1)
  | [] => by simp [getO]
  | p :: l => by
    unfold getO
    by_cases q : p.1 = k
    · simp [q]
    · simp only [q, if_false, List.map_cons, List.mem_cons, not_or]
      rw [getO_none (l := l)]
      exact ⟨fun h => ⟨fun e => q e.symm, h⟩, fun h => h.2⟩
theorem setO_new {k : ByteArray} {v : β} : ∀ {l : List (ByteArray × β)}, getO k l = none → setO k v l = l ++ [(k, v)]
  | [], _ => rfl
  | p :: l, h => by
    unfold getO at h
    unfold setO
    by_cases q : p.1 = k
    · simp [q] at h
    · simp only [q, if_false] at h ⊢
      rw [setO_new h]; rfl
/-- Names of snapshots: each once, and of the four. -/
def SnOk (s : Pl) : Prop := (s.snaps.map (·.1)).Nodup ∧ ∀ k ∈ s.snaps.map (·.1), k ∈ snpN
theorem SnOk.del {s : Pl} (w : SnOk s) (k : ByteArray) : SnOk { s with snaps := delO k s.snaps } :=
  ⟨w.1.sublist ((delO_sub k s.snaps).map _), fun x hx => w.2 x (((delO_sub k s.snaps).map _).subset hx)⟩
theorem SnOk.add {s : Pl} (w : SnOk s) {k : ByteArray} (hn : getO k s.snaps = none) (hk : k ∈ snpN) (v : Objs) : SnOk { s with snaps := setO k v s.snaps } := by
  unfold SnOk
  simp only
  rw [setO_new hn, List.map_append, List.map_cons, List.map_nil]
  refine ⟨List.nodup_append.2 ⟨w.1, by simp, fun a ha b hb => ?_⟩, fun x hx => ?_⟩
  · rw [List.mem_singleton] at hb
    subst hb
    intro e; subst e
    exact getO_none.1 hn ha
  · rcases List.mem_append.1 hx with hx | hx
    · exact w.2 x hx
    · rw [List.mem_singleton.1 hx]; exact hk
theorem step_sn {s : Pl} (w : SnOk s) {c : Cmd} (hc : c.other ∈ snpN ∨ c.kind ≠ 7) : SnOk (stepP s c).2 := by
  unfold stepP
  split
  · dsimp only
    split <;> exact w
  split
  · exact w
  split
  · exact w
  split
  · unfold snapP
    split
    · rename_i q7
      dsimp only
      split
      · rename_i e
        obtain ⟨_, g2, _⟩ := room_zero e
        exact w.add g2 (hc.resolve_right fun h => h q7) _
      · exact w
    · split
      · exact w
      · split
        · exact w
        split
        · exact w.del _
        · split <;> exact w
  split
  · split
    · exact w
    · unfold objectP
      repeat' (first | exact w | split)
  split <;> exact w
end Go.Proofs.Ytncmdbpoceilgaa.T

/- Pools: a snapshot is taken. -/
namespace Go.Proofs.Ytncmdbpoceilgaa.T
open Go Go.RowKit Go.Proofs
set_option maxRecDepth 10000

def nS : ByteArray := ByteArray.mk #[115]
def nT : ByteArray := ByteArray.mk #[116]
def cU (k : ByteArray) : Cmd := ⟨10, nE, k, 0, 0, []⟩
def cS : Cmd := ⟨7, nE, nS, 0, 0, []⟩
theorem two_names {a b : ByteArray} : ∀ {l : List ByteArray}, l.Nodup → (∀ k ∈ l, k = a ∨ k = b) → l.length ≤ 2
  | [], _, _ => by simp
  | [_], _, _ => by simp
  | [_, _], _, _ => by simp
  | x :: y :: z :: l, h, m => by
    exfalso
    simp only [List.nodup_cons, List.mem_cons, not_or] at h
    have hx := m x (by simp)
    have hy := m y (by simp)
    have hz := m z (by simp)
    obtain ⟨⟨h1, h2, _⟩, ⟨h3, _⟩, _⟩ := h
    rcases hx with rfl | rfl <;> rcases hy with rfl | rfl <;> rcases hz with rfl | rfl <;> simp_all
theorem unsnap_step (s : Pl) (k : ByteArray) : (stepP s (cU k)).2 = { s with snaps := delO k s.snaps } := by
  have e : stepP s (cU k) = snapP s (cU k) := by
    unfold stepP cU
    rw [if_neg (by simp), if_neg (by simp), if_neg (by simp), if_pos (by simp)]
  rw [e]
  unfold snapP
  rw [if_neg (show ¬ (cU k).kind = 7 by simp [cU])]
  cases hg : getO (cU k).other s.snaps with
  | none =>
    have : delO k s.snaps = s.snaps := by
      have hn := getO_none.1 hg
      show delO k s.snaps = s.snaps
      clear e hg
      revert hn
      show k ∉ s.snaps.map (·.1) → _
      generalize s.snaps = l
      intro hn
      induction l with
      | nil => rfl
      | cons p l ih =>
        simp only [List.map_cons, List.mem_cons, not_or] at hn
        unfold delO
        rw [if_neg (fun q => hn.1 q.symm), ih hn.2]
    rw [this]
  | some l =>
    simp only
    rw [if_neg (show ¬ (cU k).kind = 9 by simp [cU]), if_pos (show (cU k).kind = 10 from rfl)]
    rfl
/-- Behind two of them taken away there is room for s. -/
theorem snap_taken {s : Pl} (w : SnOk s) : ∃ s1, s1 = (stepP (stepP s (cU nS)).2 (cU nT)).2 ∧ s1.obj = s.obj ∧ stepP s1 cS = (noT 0, { s1 with snaps := setO nS s.obj s1.snaps }) ∧ SnOk s1 := by
  refine ⟨_, rfl, ?_, ?_, ?_⟩
  · rw [unsnap_step, unsnap_step]
  · rw [unsnap_step, unsnap_step]
    obtain ⟨l, hl⟩ : ∃ l, l = delO nT (delO nS s.snaps) := ⟨_, rfl⟩
    have w1 := (w.del nS).del nT
    have n1 : nS ∉ l.map (·.1) := fun h => by rw [hl] at h; exact delO_not w.1 (((delO_sub nT _).map _).subset h)
    have n2 : nT ∉ l.map (·.1) := by rw [hl]; exact delO_not (w.del nS).1
    have hlen : l.length ≤ 2 := by
      rw [← List.length_map (f := (·.1))]
      refine two_names (a := ByteArray.mk #[117, 48]) (b := ByteArray.mk #[118]) (by rw [hl]; exact w1.1) fun k hk => ?_
      have hm : k ∈ snpN := w1.2 k (by rw [hl] at hk; exact hk)
      simp only [snpN, List.mem_cons, List.not_mem_nil, or_false] at hm
      rcases hm with rfl | rfl | hm
      · exact absurd hk n1
      · exact absurd hk n2
      · exact hm
    simp only
    rw [← hl]
    have hr : roomP l nS 3 = 0 := by
      unfold roomP
      rw [if_neg (by decide), getO_none.2 n1, if_neg (by simp), if_neg (by omega)]
    show stepP ⟨s.obj, l⟩ cS = _
    unfold stepP
    rw [if_neg (by decide), if_neg (by decide), if_neg (by decide), if_pos (by decide)]
    unfold snapP
    rw [if_pos (by decide)]
    show (if roomP l nS 3 = 0 then _ else _) = _
    rw [if_pos hr]
    show (noT (roomP l nS 3), _) = _
    rw [hr]; rfl
  · rw [unsnap_step, unsnap_step]
    exact (w.del nS).del nT
end Go.Proofs.Ytncmdbpoceilgaa.T

/- Pools: what leaves snapshots. -/
namespace Go.Proofs.Ytncmdbpoceilgaa.T
open Go Go.RowKit Go.Proofs
set_option maxRecDepth 10000

theorem object_snaps (s : Pl) (x : List Int) (c : Cmd) : (objectP s x c).2.snaps = s.snaps := by
  unfold objectP
  repeat' (first | rfl | split)
theorem step_snaps {s : Pl} {c : Cmd} (h7 : c.kind ≠ 7) (h10 : c.kind ≠ 10) : (stepP s c).2.snaps = s.snaps := by
  unfold stepP
  split
  · dsimp only; split <;> rfl
  split
  · rfl
  split
  · rfl
  split
  · unfold snapP
    rw [if_neg h7]
    cases getO c.other s.snaps with
    | none => rfl
    | some l =>
      simp only
      split
      · rfl
      · cases getO c.name l <;> rfl
  split
  · cases getO c.name s.obj with
    | none => rfl
    | some x => exact object_snaps s x c
  split <;> rfl
end Go.Proofs.Ytncmdbpoceilgaa.T

/- Pools: plain law of who goes back. -/
namespace Go.Proofs.Ytncmdbpoceilgaa.T
open Go Go.RowKit Go.Proofs
set_option maxRecDepth 10000

def cF (k : ByteArray) : Cmd := ⟨3, k, nE, 0, 2000, []⟩
def getT (o : Objs) (k : ByteArray) : Tld := match getO k o with | none => noT 6 | some x => fetchP x (cF k)
theorem fetch_step (s : Pl) (k : ByteArray) : stepP s (cF k) = (getT s.obj k, s) := by
  obtain ⟨h1, h2⟩ := step_obj (s := s) (c := cF k) (.inr (.inl rfl))
  unfold getT
  cases hg : getO k s.obj with
  | none => rw [h2 hg]
  | some x => rw [h1 x hg]; unfold objectP; rw [if_pos (show (cF k).kind = 3 from rfl)]
end Go.Proofs.Ytncmdbpoceilgaa.T

/- Pools: plain law of snapshots that stay. -/
namespace Go.Proofs.Ytncmdbpoceilgaa.T
open Go Go.RowKit Go.Proofs
set_option maxRecDepth 10000
variable {β : Type}

theorem getO_del {k j : ByteArray} (h : j ≠ k) : ∀ l : List (ByteArray × β), getO k (delO j l) = getO k l
  | [] => rfl
  | p :: l => by
    unfold delO
    by_cases q : p.1 = j
    · rw [if_pos q, getO, if_neg (fun e => h (q.symm.trans e))]
    · rw [if_neg q, getO, getO, getO_del h l]
theorem getO_set_ne {k j : ByteArray} (h : j ≠ k) (v : β) : ∀ l : List (ByteArray × β), getO k (setO j v l) = getO k l
  | [] => by simp [setO, getO, h]
  | p :: l => by
    unfold setO
    by_cases q : p.1 = j
    · rw [if_pos q, getO, getO, if_neg h, if_neg (fun e => h (q.symm.trans e))]
    · rw [if_neg q, getO, getO, getO_set_ne h v l]
theorem step_keep {s : Pl} {c : Cmd} {l : Objs} (h : getO nS s.snaps = some l) (hc : ¬ (c.kind = 10 ∧ c.other = nS)) : getO nS (stepP s c).2.snaps = some l := by
  by_cases k7 : c.kind = 7
  · have e : stepP s c = snapP s c := by
      unfold stepP
      rw [if_neg (by omega), if_neg (by omega), if_neg (by omega), if_pos (.inl k7)]
    rw [e]
    unfold snapP
    rw [if_pos k7]
    dsimp only
    split
    · rename_i z
      obtain ⟨_, g, _⟩ := room_zero z
      have hne : c.other ≠ nS := fun q => by rw [q, h] at g; cases g
      show getO nS (setO c.other s.obj s.snaps) = _
      rw [getO_set_ne hne, h]
    · exact h
  by_cases k10 : c.kind = 10
  · have e : stepP s c = snapP s c := by
      unfold stepP
      rw [if_neg (by omega), if_neg (by omega), if_neg (by omega), if_pos (.inr (.inr (.inr k10)))]
    rw [e]
    unfold snapP
    rw [if_neg k7]
    cases getO c.other s.snaps with
    | none => exact h
    | some l' =>
      simp only
      rw [if_neg (by omega), if_pos k10]
      show getO nS (delO c.other s.snaps) = _
      rw [getO_del (fun q => hc ⟨k10, q⟩), h]
  · rw [step_snaps k7 k10]; exact h
theorem end_keep : ∀ {m : List Cmd} {s : Pl} {l : Objs}, getO nS s.snaps = some l → (∀ c ∈ m, ¬ (c.kind = 10 ∧ c.other = nS)) → getO nS (endP s m).snaps = some l
  | [], _, _, h, _ => h
  | c :: m, s, l, h, hm => end_keep (m := m) (step_keep h (hm c List.mem_cons_self)) fun c hc => hm c (List.mem_cons_of_mem _ hc)
end Go.Proofs.Ytncmdbpoceilgaa.T
