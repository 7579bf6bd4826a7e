/- Pools: a play. -/
import Derived.Test.YtncmdbpoceilgaaP7
set_option linter.unusedVariables false
set_option linter.unusedSimpArgs false
namespace Go.Proofs.Ytncmdbpoceilgaa.T
open Go Go.RowKit Go.Proofs
set_option maxRecDepth 10000
variable {X X' : Nat → Prop} {β : Type}

/-! ### what the plain step keeps -/
theorem setO_mem {k : ByteArray} {v : β} {x : ByteArray × β} : ∀ {l : List (ByteArray × β)}, x ∈ setO k v l → x = (k, v) ∨ x ∈ l
  | [], h => .inl (by simpa [setO] using h)
  | p :: l, h => by
    unfold setO at h
    split at h
    · rcases List.mem_cons.1 h with h | h
      · exact .inl h
      · exact .inr (List.mem_cons_of_mem _ h)
    · rcases List.mem_cons.1 h with h | h
      · exact .inr (h ▸ List.mem_cons_self)
      · rcases setO_mem h with h | h
        · exact .inl h
        · exact .inr (List.mem_cons_of_mem _ h)
theorem setO_len {k : ByteArray} {v : β} : ∀ {l : List (ByteArray × β)}, (setO k v l).length = if (getO k l).isSome = true then l.length else l.length + 1
  | [] => rfl
  | p :: l => by
    unfold setO getO
    by_cases q : p.1 = k
    · simp [q]
    · simp only [q, if_false, List.length_cons]
      rw [setO_len (l := l)]
      split <;> rfl
theorem delO_mem {k : ByteArray} {x : ByteArray × β} : ∀ {l : List (ByteArray × β)}, x ∈ delO k l → x ∈ l
  | [], h => by cases h
  | p :: l, h => by
    unfold delO at h
    split at h
    · exact List.mem_cons_of_mem _ h
    · rcases List.mem_cons.1 h with h | h
      · exact h ▸ List.mem_cons_self
      · exact List.mem_cons_of_mem _ (delO_mem h)
theorem delO_len {k : ByteArray} : ∀ {l : List (ByteArray × β)}, (delO k l).length ≤ l.length
  | [] => Nat.le_refl _
  | p :: l => by
    unfold delO
    split
    · simp
    · have := delO_len (k := k) (l := l); simp; omega
theorem good_size {s : ByteArray} (h : goodName s = true) : s.size ≤ 8 := by
  unfold goodName at h; simp at h; omega
theorem room_zero {l : List (ByteArray × β)} {s : ByteArray} {m : Nat} (h : roomP l s m = 0) : goodName s = true ∧ getO s l = none ∧ l.length ≠ m := by
  unfold roomP at h
  split at h
  · cases h
  · rename_i g
    split at h
    · cases h
    · rename_i i
      split at h
      · cases h
      · rename_i j
        exact ⟨by simpa using g, by simpa using i, j⟩
theorem Pl.Ok.setObj {s : Pl} (w : s.Ok) {k : ByteArray} {v : List Int} (hk : k.size ≤ 8) (hv : v.length ≤ 1024) (hl : (getO k s.obj).isSome = true ∨ s.obj.length ≠ 4) : ({ s with obj := setO k v s.obj } : Pl).Ok :=
  ⟨fun x hx => by
    rcases setO_mem hx with rfl | hx
    · exact ⟨hk, hv⟩
    · exact w.obj x hx, by
    show (setO k v s.obj).length ≤ 4
    rw [setO_len]
    have := w.olen
    split
    · exact this
    · rcases hl with hl | hl
      · rename_i q; exact absurd hl q
      · omega, w.snaps, w.slen⟩
theorem object_ok {s : Pl} (w : s.Ok) {c : Cmd} {x : List Int} (hx : getO c.name s.obj = some x) : (objectP s x c).2.Ok := by
  have hm := w.obj _ (getO_mem hx)
  unfold objectP
  split
  · exact w
  split
  · exact ⟨fun y hy => w.obj y (delO_mem hy), Nat.le_trans delO_len w.olen, w.snaps, w.slen⟩
  split
  · split
    · exact w
    split
    · exact w
    split
    · exact w
    split
    · exact w
    · rename_i q1 q2 q3 q4
      exact w.setObj hm.1 (by have := hm.2; simp only at this; rw [writeP_len]; omega) (.inl (by rw [hx]; rfl))
  · split
    · exact w
    split
    · exact w
    · rename_i q1 q2
      exact w.setObj hm.1 (by rw [resizeP_len]; omega) (.inl (by rw [hx]; rfl))
theorem snap_ok {s : Pl} (w : s.Ok) (c : Cmd) : (snapP s c).2.Ok := by
  unfold snapP
  split
  · dsimp only
    split
    · rename_i e
      obtain ⟨g1, g2, g3⟩ := room_zero e
      refine ⟨w.obj, w.olen, fun x hx => ?_, ?_⟩
      · rcases setO_mem hx with rfl | hx
        · exact ⟨good_size g1, w.obj, w.olen⟩
        · exact w.snaps x hx
      · show (setO c.other s.obj s.snaps).length ≤ 3
        rw [setO_len, g2]
        have := w.slen
        simp; omega
    · exact w
  · split
    · exact w
    · rename_i l hl
      have hm := w.snaps _ (getO_mem hl)
      split
      · exact ⟨hm.2.1, hm.2.2, w.snaps, w.slen⟩
      split
      · exact ⟨w.obj, w.olen, fun y hy => w.snaps y (delO_mem hy), Nat.le_trans delO_len w.slen⟩
      · split <;> exact w
theorem step_ok {s : Pl} (w : s.Ok) (c : Cmd) : (stepP s c).2.Ok := by
  unfold stepP
  split
  · dsimp only
    split
    · rename_i e
      obtain ⟨g1, g2, g3⟩ := room_zero e
      exact w.setObj (good_size g1) (by simp) (.inr g3)
    · exact w
  split
  · exact w
  split
  · exact w
  split
  · exact snap_ok w c
  split
  · split
    · exact w
    · rename_i x hx; exact object_ok w hx
  split <;> exact w

def playP : Pl → List Cmd → List Tld
  | _, [] => []
  | s, c :: l => (stepP s c).1 :: playP (stepP s c).2 l
def endP : Pl → List Cmd → Pl
  | s, [] => s
  | s, c :: l => endP (stepP s c).2 l
theorem playP_len : ∀ (l : List Cmd) (s : Pl), (playP s l).length = l.length
  | [], _ => rfl
  | c :: l, s => by simp [playP, playP_len l]

/-! ### memory -/
theorem PM.more {h h' : AHeap} {nx nx' S o k : Nat} {s : Pl} (p : PM X h nx S o k s) (x : Ext h nx h' nx') (hx : ∀ i, X' i → i < nx → X i) (hl : ∀ i, X' i → i < nx') : PM X' h' nx' S o k s := by
  have g : ∀ i, i < nx → Avd X' S o k i → Avd X S o k i := fun i hi q => by
    rcases q with q | q
    · exact .inl q
    · exact .inr (hx i q hi)
  exact ⟨(x.2 S p.lS).trans p.st, p.ob.mono (x.2 o p.lo) fun _ _ r => Byt.go r (x.fr fun _ => False) (fun _ _ q => q.elim) g,
   p.sn.mono (x.2 k p.lk) fun _ _ r => RM.go r (x.fr fun _ => False) (fun _ _ q => q.elim) g, by have := p.lS; have := x.1; omega, by have := p.lo; have := x.1; omega, by have := p.lk; have := x.1; omega, p.So, p.Sk, p.ok, hl⟩
theorem PM.other {h h' : AHeap} {nx nx' S o k : Nat} {s : Pl} (p : PM X h nx S o k s) (f : Frm X h nx h' nx') (hd : ∀ i, X i → ¬ Bst S o k i) : PM X h' nx' S o k s :=
  ⟨(f.2 S p.lS fun q => hd _ q (.inl rfl)).trans p.st, p.ob.mono (f.2 o p.lo fun q => hd _ q (.inr (.inl rfl))) fun _ _ r => Byt.go r f (fun _ _ q => .inr q) fun _ _ q => q,
   p.sn.mono (f.2 k p.lk fun q => hd _ q (.inr (.inr rfl))) fun _ _ r => RM.go r f (fun _ _ q => .inr q) fun _ _ q => q, by have := p.lS; have := f.1; omega, by have := p.lo; have := f.1; omega, by have := p.lk; have := f.1; omega, p.So, p.Sk, p.ok,
   fun i hi => by have := p.lX i hi; have := f.1; omega⟩

def CmdR (h : AHeap) (nx : Nat) (A : Nat → Prop) (c : Cmd) (r : List AV) : Prop := ∃ x5 x6 da dc, r = cmdV c x5 x6 da dc ∧ Sl h nx da c.data.length 1 (ints .u8 c.data) ∧ Av A da c.data.length
theorem CmdR.go {h h' : AHeap} {nx nx' : Nat} {A A' D : Nat → Prop} {c : Cmd} {r : List AV} (b : CmdR h nx A c r) (f : Frm D h nx h' nx') (d : ∀ i, i < nx → D i → A i) (g : ∀ i, i < nx → A' i → A i) : CmdR h' nx' A' c r := by
  obtain ⟨x5, x6, da, dc, e, s, v⟩ := b
  exact ⟨x5, x6, da, dc, e, s.fr (v.go s d) f, v.go s g⟩
theorem CmdR.len {h : AHeap} {nx : Nat} {A : Nat → Prop} {c : Cmd} {r : List AV} (b : CmdR h nx A c r) : r.length = 8 := by
  obtain ⟨x5, x6, da, dc, rfl, _⟩ := b; rfl
theorem OwnRows.low {α : Type} {Q : α → List AV → Prop} {h : AHeap} {nx : Nat} {a : Option (Nat × Nat)} {es : Nat} {l : List α} (w : OwnRows Q h nx a es l) {i : Nat} (hi : ownOf a i) : i < nx := by
  obtain ⟨rows, _, _, s⟩ := w
  obtain ⟨o, rfl⟩ := hi
  rcases s with ⟨e, _⟩ | ⟨b, e, b1, _⟩
  · cases e
  · obtain ⟨rfl, rfl⟩ := Prod.mk.inj (Option.some.inj e); exact b1

theorem play_loop {n lf : Nat} (hn : 1030 ≤ n) (Y : YldF) {h0 : AHeap} {n0 S k : Nat} {ca : Option (Nat × Nat)} (cc : Option Nat) {cmds : List Cmd} {A0 : Nat → Prop} (rows : Rows (CmdR h0 n0 A0) h0 n0 A0 ca 8 cmds) (hcl : cmds.length ≤ 300) (hsz : ∀ c ∈ cmds, c.name.size ≤ 1000 ∧ c.other.size ≤ 1000) (lS0 : n0 ≤ S) (lk0 : n0 ≤ k) :
    ∀ (m n1 i : Nat) (h : AHeap) (nx o : Nat) (a : Option (Nat × Nat)) (ac : Option Nat) (s : Pl) (outs : List Tld), cmds.length = i + m → m < n1 → Ext h0 n0 h nx → PM (ownOf a) h nx S o k s → s.Ok → n0 ≤ o →
      OwnRows (ToldR h nx fun j => Bst S o k j ∨ ownOf a j) h nx a 5 outs → (∀ j, ownOf a j → n0 ≤ j ∧ ¬ Bst S o k j) → outs.length = i →
      ∃ a' ac' h' nx', F17_L1 (callP Try.prog keepT n) Y lf n1 (some (S, 0)) a outs.length ac ca cmds.length cc ((cmds.length : Nat) : Int) (i : Int) h nx = some (.tuple [.slice a' (outs ++ playP s (cmds.drop i)).length ac', .int .i64 0], h', nx') ∧
        Ext h0 n0 h' nx' ∧ OwnRows (ToldR h' nx' (ownOf a')) h' nx' a' 5 (outs ++ playP s (cmds.drop i)) ∧ ∀ j, ownOf a' j → n0 ≤ j
  | 0, n1 + 1, i, h, nx, o, a, ac, s, outs, hm, _, x, p, ok, lo0, w, hd, hlen => by
    rw [F17_L1_eq, if_neg (by simp; omega), show cmds.drop i = [] from List.drop_eq_nil_of_le (by omega)]
    refine ⟨a, ac, h, nx + 4, by simp [playP], x.le (by omega), ?_, fun j hj => (hd j hj).1⟩
    rw [show outs ++ playP s [] = outs from by simp [playP]]
    have f : Frm (fun _ => False) h nx h (nx + 4) := (Ext.refl h nx |>.le (by omega)).fr _
    exact w.go f (fun _ _ q => q) fun t r q => q.go f (fun _ _ q => q.elim) fun _ _ q => .inr q
  | m + 1, n1 + 1, i, h, nx, o, a, ac, s, outs, hm, hn1, x, p, ok, lo0, w, hd, hlen => by
    have hi : i < cmds.length := by omega
    have hdrop : cmds.drop i = cmds[i] :: cmds.drop (i + 1) := List.drop_eq_getElem_cons hi
    generalize hc : cmds[i] = c at hdrop
    have hget : cmds[i]? = some c := by rw [List.getElem?_eq_getElem hi, hc]
    have hcm : c ∈ cmds := List.mem_of_getElem? hget
    have rows1 : Rows (CmdR h nx fun _ => False) h nx (fun _ => False) ca 8 cmds := rows.go (x.fr fun _ => False) (fun _ _ q => q.elim) (fun _ _ q => q.elim) fun _ _ r => r.go (x.fr fun _ => False) (fun _ _ q => q.elim) (fun _ _ q => q.elim)
    obtain ⟨r, ⟨x5, x6, da, dc, rfl, sd, _⟩, _, hread, _⟩ := rows1.read (R := AV × AHeap × Nat) hget
    rw [F17_L1_eq, if_pos (by simp; omega)]
    dsimp only
    rw [hread]
    unfold cmdV
    simp only [mst_, mst5_]
    rw [st_all (put_same _ _ _) (by simp) (by simp) (by simp [allOne, AV.one]), put_put, ldr_all (n := 8) (put_same _ _ _) rfl]
    simp only [mst_, mst5_]
    obtain ⟨h1, hh1⟩ : ∃ h1, h1 = h.put (nx + 3) (some ⟨[.int .i64 c.kind, .str c.name, .str c.other, .int .i64 c.off, .int .i64 c.count, .int .i64 x5, .int .i64 x6, .slice da c.data.length dc], 8, true⟩) := ⟨_, rfl⟩
    rw [← hh1]
    have x1 : Ext h nx h1 (nx + 12) := by rw [hh1]; exact (Ext.refl h nx).put (by omega) (by omega)
    clear hh1
    obtain ⟨XX, hXX⟩ : ∃ XX : Nat → Prop, XX = fun j => ownOf a j ∨ j = nx + 9 ∨ j = nx + 10 := ⟨_, rfl⟩
    have hlow : ∀ j, ownOf a j → j < nx := fun j hj => w.low hj
    have p1 : PM XX h1 (nx + 12) S o k s := p.more x1 (fun j hj hlt => by rw [hXX] at hj; rcases hj with hj | hj | hj; exact hj; omega; omega) (fun j hj => by rw [hXX] at hj; rcases hj with hj | hj | hj; have := hlow j hj; omega; omega; omega)
    obtain ⟨row, h2, n2, o2, e, ⟨d, u, rfl, ⟨ba, bc, rfl, d1, d2⟩, ⟨ua, uc, rfl, u1, u2⟩⟩, q, f, ho⟩ := do_spec (n := n) hn Y p1 ok c x5 x6 dc (sd.ext x1) (hsz c hcm).1 (hsz c hcm).2
    unfold cmdV at e
    rw [e]
    simp only [mst_, mst5_]
    have lS := p.lS; have lo := p.lo; have lk := p.lk
    have hn2 : nx + 12 ≤ n2 := f.1
    obtain ⟨A1, hA1⟩ : ∃ A1 : Nat → Prop, A1 = fun j => Bst S o2 k j ∨ XX j := ⟨_, rfl⟩
    have f2 : Frm (Bst S o k) h nx h2 n2 := ⟨by omega, fun j hj hb => (f.2 j (by omega) hb).trans (x1.2 j hj)⟩
    -- what is told so far, and now
    have w1 : OwnRows (ToldR h2 n2 A1) h2 (nx + 9) a 5 outs := by
      have f3 : Frm (Bst S o k) h nx h2 (nx + 9) := ⟨by omega, f2.2⟩
      refine w.go f3 (fun j hj => (hd j hj).2) fun t r qq => qq.go f2 (fun j _ hb => .inl hb) fun j hj hb => ?_
      rw [hA1, hXX] at hb
      rcases hb with hb | hb | hb | hb
      · left; unfold Bst at *; omega
      · exact .inr hb
      · omega
      · omega
    have t1 : ToldR h2 n2 A1 (stepP s c).1 [.int .i64 (stepP s c).1.code, .bool false, .int .i64 (stepP s c).1.size, .slice ba (stepP s c).1.data.length bc, .slice ua (stepP s c).1.names.length uc] := by
      have g : ∀ j, j < n2 → A1 j → (j < nx + 12 ∨ j = o2) := fun j hj hb => by
        rw [hA1, hXX] at hb
        rcases hb with hb | hb | hb | hb
        · unfold Bst at hb; omega
        · have := hlow j hb; omega
        · omega
        · omega
      exact ⟨_, _, rfl, ⟨ba, bc, rfl, d1, d2.go d1 g⟩, ⟨ua, uc, rfl, u1, u2.go u1 g⟩⟩
    obtain ⟨ee, a1, a2, a3, a4, a5, a6, a7, a8⟩ := w1.push ac (bytes := 72) (id := nx + 9) (id2 := nx + 10) (x := (stepP s c).1) (r := [.int .i64 (stepP s c).1.code, .bool false, .int .i64 (stepP s c).1.size, .slice ba (stepP s c).1.data.length bc, .slice ua (stepP s c).1.names.length uc]) rfl t1 (growOk_of (by omega) (by omega)) (Nat.le_refl _) (by omega)
    rw [a1]
    simp only [mst_, mst5_]
    rw [a2]
    simp only [mst_, mst5_]
    rw [wsucc (by omega)]
    -- the loop goes on
    have fX : Frm XX h2 n2 ((h2.put (nx + 9) (some ⟨[.int .i64 (stepP s c).1.code, .bool false, .int .i64 (stepP s c).1.size, .slice ba (stepP s c).1.data.length bc, .slice ua (stepP s c).1.names.length uc], 5, true⟩)).puts ee.sets) (n2 + 2) := ⟨by omega, fun j hj hb => by
      rw [hXX] at hb
      rw [puts_get _ _ (fun hm => hb (by rcases a8 j hm with h | h; exact .inl h; exact .inr (.inr h))), put_ne (fun h => hb (.inr (.inl h)))]⟩
    generalize (h2.put (nx + 9) (some ⟨[.int .i64 (stepP s c).1.code, .bool false, .int .i64 (stepP s c).1.size, .slice ba (stepP s c).1.data.length bc, .slice ua (stepP s c).1.names.length uc], 5, true⟩)).puts ee.sets = h3 at *
    have hown : ∀ j, ownOf ee.a j → j = nx + 10 := fun j ⟨oo, hj⟩ => by rw [a3] at hj; exact (Prod.mk.inj (Option.some.inj hj)).1.symm
    have hXB : ∀ j, XX j → ¬ Bst S o2 k j := fun j hj hb => by
      rw [hXX] at hj
      rcases hj with hj | hj | hj
      · have q1 := (hd j hj).2; have := hlow j hj; unfold Bst at *; omega
      · unfold Bst at hb; omega
      · unfold Bst at hb; omega
    have p3 : PM (ownOf ee.a) h3 (n2 + 2) S o2 k (stepP s c).2 := (q.other fX hXB).more (Ext.refl h3 (n2 + 2)) (fun j hj _ => by rw [hXX]; exact .inr (.inr (hown j hj))) fun j hj => by have := hown j hj; omega
    have w2 : OwnRows (ToldR h3 (n2 + 2) fun j => Bst S o2 k j ∨ ownOf ee.a j) h3 (n2 + 2) ee.a 5 (outs ++ [(stepP s c).1]) := by
      have f5 : Frm (fun _ => False) h3 (nx + 9 + 1 + 1) h3 (n2 + 2) := ⟨by omega, fun _ _ _ => rfl⟩
      refine a5.go f5 (fun _ _ q => q) fun t r qq => qq.go fX (fun j _ hj => by rw [hA1]; exact .inr hj) fun j _ hj => ?_
      rw [hA1]
      rcases hj with hj | hj
      · exact .inl hj
      · right; rw [hXX]; exact .inr (.inr (hown j hj))
    have x3 : Ext h0 n0 h3 (n2 + 2) := ⟨by have := x.1; omega, fun j hj => by
      have hx1 := x.1
      rw [fX.2 j (by omega) (fun hb => by rw [hXX] at hb; rcases hb with hb | hb | hb; have := (hd j hb).1; omega; omega; omega), f2.2 j (by omega) (fun hb => by unfold Bst at hb; omega)]
      exact x.2 j hj⟩
    have hlen2 : (outs ++ [(stepP s c).1]).length = i + 1 := by simp [hlen]
    obtain ⟨a', ac', h', nx', g1, g2, g3, g4⟩ := play_loop (lf := lf) hn Y cc rows hcl hsz lS0 lk0 m n1 (i + 1) h3 (n2 + 2) o2 ee.a ee.c (stepP s c).2 (outs ++ [(stepP s c).1]) (by omega) (by omega) x3 p3 (step_ok ok c) (by have := x.1; omega) w2
      (fun j hj => by have := hown j hj; have := x.1; exact ⟨by omega, by unfold Bst; omega⟩) hlen2
    have hee : ee.n = (outs ++ [(stepP s c).1]).length := by rw [a4]; simp
    have hfin : outs ++ playP s (cmds.drop i) = (outs ++ [(stepP s c).1]) ++ playP (stepP s c).2 (cmds.drop (i + 1)) := by rw [hdrop]; simp [playP]
    rw [hfin]
    rw [hee]
    exact ⟨a', ac', h', nx', g1, g2, g3, g4⟩
end Go.Proofs.Ytncmdbpoceilgaa.T
