import Derived.Test.YtncmdbpoceilgaaP7
set_option linter.unusedVariables false
set_option linter.unusedSimpArgs false
/- Pools: a play. -/
namespace Go.Proofs.Ytncmdbpoceilgaa.T
open Go Go.RowKit Go.Proofs
set_option maxRecDepth 10000
variable {X X' : Nat → Prop} {β : Type}

/-! ### what the plain step keeps -/
theorem setO_mem {k : ByteArray} {v : β} {x : ByteArray × β} : ∀ {l : List (ByteArray × β)}, x ∈ setO k v l → x = (k, v) ∨ x ∈ l
  | [], h => .inl (by simpa [setO] using h)
  | p :: l, h => by
    unfold setO at h
    split at h
    · rcases List.mem_cons.1 h with h | h
      · exact .inl h
      · exact .inr (List.mem_cons_of_mem _ h)
    · rcases List.mem_cons.1 h with h | h
      · exact .inr (h ▸ List.mem_cons_self)
      · rcases setO_mem h with h | h
        · exact .inl h
        · exact .inr (List.mem_cons_of_mem _ h)
theorem setO_len {k : ByteArray} {v : β} : ∀ {l : List (ByteArray × β)}, (setO k v l).length = if (getO k l).isSome = true then l.length else l.length + 1
  | [] => rfl
  | p :: l => by
    unfold setO getO
    by_cases q : p.1 = k
    · simp [q]
    · simp only [q, if_false, List.length_cons]
      rw [setO_len (l := l)]
      split <;> rfl
theorem delO_mem {k : ByteArray} {x : ByteArray × β} : ∀ {l : List (ByteArray × β)}, x ∈ delO k l → x ∈ l
  | [], h => by cases h
  | p :: l, h => by
    unfold delO at h
    split at h
    · exact List.mem_cons_of_mem _ h
    · rcases List.mem_cons.1 h with h | h
      · exact h ▸ List.mem_cons_self
      · exact List.mem_cons_of_mem _ (delO_mem h)
theorem delO_len {k : ByteArray} : ∀ {l : List (ByteArray × β)}, (delO k l).length ≤ l.length
  | [] => Nat.le_refl _
  | p :: l => by
    unfold delO
    split
    · simp
    · have := delO_len (k := k) (l := l); simp; omega
theorem good_size {s : ByteArray} (h : goodName s = true) : s.size ≤ 8 := by
  unfold goodName at h; simp at h; omega
theorem room_zero {l : List (ByteArray × β)} {s : ByteArray} {m : Nat} (h : roomP l s m = 0) : goodName s = true ∧ getO s l = none ∧ l.length ≠ m := by
  unfold roomP at h
  split at h
  · cases h
  · rename_i g
    split at h
    · cases h
    · rename_i i
      split at h
      · cases h
      · rename_i j
        exact ⟨by simpa using g, by simpa using i, j⟩
theorem Pl.Ok.setObj {s : Pl} (w : s.Ok) {k : ByteArray} {v : List Int} (hk : k.size ≤ 8) (hv : v.length ≤ 1024) (hl : (getO k s.obj).isSome = true ∨ s.obj.length ≠ 4) : ({ s with obj := setO k v s.obj } : Pl).Ok :=
  ⟨fun x hx => by
    rcases setO_mem hx with rfl | hx
    · exact ⟨hk, hv⟩
    · exact w.obj x hx, by
    show (setO k v s.obj).length ≤ 4
    rw [setO_len]
    have := w.olen
    split
    · exact this
    · rcases hl with hl | hl
      · rename_i q; exact absurd hl q
      · omega, w.snaps, w.slen⟩
theorem object_ok {s : Pl} (w : s.Ok) {c : Cmd} {x : List Int} (hx : getO c.name s.obj = some x) : (objectP s x c).2.Ok := by
  have hm := w.obj _ (getO_mem hx)
  unfold objectP
  split
  · exact w
  split
  · exact ⟨fun y hy => w.obj y (delO_mem hy), Nat.le_trans delO_len w.olen, w.snaps, w.slen⟩
  split
  · split
    · exact w
    split
    · exact w
    split
    · exact w
    split
    · exact w
    · rename_i q1 q2 q3 q4
      exact w.setObj hm.1 (by have := hm.2; simp only at this; rw [writeP_len]; omega) (.inl (by rw [hx]; rfl))
  · split
    · exact w
    split
    · exact w
    · rename_i q1 q2
      exact w.setObj hm.1 (by rw [resizeP_len]; omega) (.inl (by rw [hx]; rfl))
theorem snap_ok {s : Pl} (w : s.Ok) (c : Cmd) : (snapP s c).2.Ok := by
  unfold snapP
  split
  · dsimp only
    split
    · rename_i e
      obtain ⟨g1, g2, g3⟩ := room_zero e
      refine ⟨w.obj, w.olen, fun x hx => ?_, ?_⟩
      · rcases setO_mem hx with rfl | hx
        · exact ⟨good_size g1, w.obj, w.olen⟩
        · exact w.snaps x hx
      · show (setO c.other s.obj s.snaps).length ≤ 3
        rw [setO_len, g2]
        have := w.slen
        simp; omega
    · exact w
  · split
    · exact w
    · rename_i l hl
      have hm := w.snaps _ (getO_mem hl)
      split
      · exact ⟨hm.2.1, hm.2.2, w.snaps, w.slen⟩
      split
      · exact ⟨w.obj, w.olen, fun y hy => w.snaps y (delO_mem hy), Nat.le_trans delO_len w.slen⟩
      · split <;> exact w
theorem step_ok {s : Pl} (w : s.Ok) (c : Cmd) : (stepP s c).2.Ok := by
  unfold stepP
  split
  · dsimp only
    split
    · rename_i e
      obtain ⟨g1, g2, g3⟩ := room_zero e
      exact w.setObj (good_size g1) (by simp) (.inr g3)
    · exact w
  split
  · exact w
  split
  · exact w
  split
  · exact snap_ok w c
  split
  · split
    · exact w
    · rename_i x hx; exact object_ok w hx
  split <;> exact w

def playP : Pl → List Cmd → List Tld
  | _, [] => []
  | s, c :: l => (stepP s c).1 :: playP (stepP s c).2 l
def endP : Pl → List Cmd → Pl
  | s, [] => s
  | s, c :: l => endP (stepP s c).2 l
theorem playP_len : ∀ (l : List Cmd) (s : Pl), (playP s l).length = l.length
  | [], _ => rfl
  | c :: l, s => by simp [playP, playP_len l]

/-! ### memory -/
theorem PM.more {h h' : AHeap} {nx nx' S o k : Nat} {s : Pl} (p : PM X h nx S o k s) (x : Ext h nx h' nx') (hx : ∀ i, X' i → i < nx → X i) (hl : ∀ i, X' i → i < nx') : PM X' h' nx' S o k s := by
  have g : ∀ i, i < nx → Avd X' S o k i → Avd X S o k i := fun i hi q => by
    rcases q with q | q
    · exact .inl q
    · exact .inr (hx i q hi)
  exact ⟨(x.2 S p.lS).trans p.st, p.ob.mono (x.2 o p.lo) fun _ _ r => Byt.go r (x.fr fun _ => False) (fun _ _ q => q.elim) g,
   p.sn.mono (x.2 k p.lk) fun _ _ r => RM.go r (x.fr fun _ => False) (fun _ _ q => q.elim) g, by have := p.lS; have := x.1; omega, by have := p.lo; have := x.1; omega, by have := p.lk; have := x.1; omega, p.So, p.Sk, p.ok, hl⟩
theorem PM.other {h h' : AHeap} {nx nx' S o k : Nat} {s : Pl} (p : PM X h nx S o k s) (f : Frm X h nx h' nx') (hd : ∀ i, X i → ¬ Bst S o k i) : PM X h' nx' S o k s :=
  ⟨(f.2 S p.lS fun q => hd _ q (.inl rfl)).trans p.st, p.ob.mono (f.2 o p.lo fun q => hd _ q (.inr (.inl rfl))) fun _ _ r => Byt.go r f (fun _ _ q => .inr q) fun _ _ q => q,
   p.sn.mono (f.2 k p.lk fun q => hd _ q (.inr (.inr rfl))) fun _ _ r => RM.go r f (fun _ _ q => .inr q) fun _ _ q => q, by have := p.lS; have := f.1; omega, by have := p.lo; have := f.1; omega, by have := p.lk; have := f.1; omega, p.So, p.Sk, p.ok,
   fun i hi => by have := p.lX i hi; have := f.1; omega⟩

def CmdR (h : AHeap) (nx : Nat) (A : Nat → Prop) (c : Cmd) (r : List AV) : Prop := ∃ x5 x6 da dc, r = cmdV c x5 x6 da dc ∧ Sl h nx da c.data.length 1 (ints .u8 c.data) ∧ Av A da c.data.length
theorem CmdR.go {h h' : AHeap} {nx nx' : Nat} {A A' D : Nat → Prop} {c : Cmd} {r : List AV} (b : CmdR h nx A c r) (f : Frm D h nx h' nx') (d : ∀ i, i < nx → D i → A i) (g : ∀ i, i < nx → A' i → A i) : CmdR h' nx' A' c r := by
  obtain ⟨x5, x6, da, dc, e, s, v⟩ := b
  exact ⟨x5, x6, da, dc, e, s.fr (v.go s d) f, v.go s g⟩
theorem CmdR.len {h : AHeap} {nx : Nat} {A : Nat → Prop} {c : Cmd} {r : List AV} (b : CmdR h nx A c r) : r.length = 8 := by
  obtain ⟨x5, x6, da, dc, rfl, _⟩ := b; rfl
theorem OwnRows.low {α : Type} {Q : α → List AV → Prop} {h : AHeap} {nx : Nat} {a : Option (Nat × Nat)} {es : Nat} {l : List α} (w : OwnRows Q h nx a es l) {i : Nat} (hi : ownOf a i) : i < nx := by
  obtain ⟨rows, _, _, s⟩ := w
  obtain ⟨o, rfl⟩ := hi
  rcases s with ⟨e, _⟩ | ⟨b, e, b1, _⟩
  · cases e
  · obtain ⟨rfl, rfl⟩ := Prod.mk.inj (Option.some.inj e); exact b1

theorem play_loop {n lf : Nat} (hn : 1030 ≤ n) (Y : YldF) {h0 : AHeap} {n0 S k : Nat} {ca : Option (Nat × Nat)} (cc : Option Nat) {cmds : List Cmd} {A0 : Nat → Prop} (rows : Rows (CmdR h0 n0 A0) h0 n0 A0 ca 8 cmds) (hcl : cmds.length ≤ 300) (hsz : ∀ c ∈ cmds, c.name.size ≤ 1000 ∧ c.other.size ≤ 1000) (lS0 : n0 ≤ S) (lk0 : n0 ≤ k) :
    ∀ (m n1 i : Nat) (h : AHeap) (nx o : Nat) (a : Option (Nat × Nat)) (ac : Option Nat) (s : Pl) (outs : List Tld), cmds.length = i + m → m < n1 → Ext h0 n0 h nx → PM (ownOf a) h nx S o k s → s.Ok → n0 ≤ o →
      OwnRows (ToldR h nx fun j => Bst S o k j ∨ ownOf a j) h nx a 5 outs → (∀ j, ownOf a j → n0 ≤ j ∧ ¬ Bst S o k j) → outs.length = i →
      ∃ a' ac' h' nx', F17_L1 (callP Try.prog keepT n) Y lf n1 (some (S, 0)) a outs.length ac ca cmds.length cc ((cmds.length : Nat) : Int) (i : Int) h nx = some (.tuple [.slice a' (outs ++ playP s (cmds.drop i)).length ac', .int .i64 0], h', nx') ∧
        Ext h0 n0 h' nx' ∧ OwnRows (ToldR h' nx' (ownOf a')) h' nx' a' 5 (outs ++ playP s (cmds.drop i)) ∧ ∀ j, ownOf a' j → n0 ≤ j
  | 0, n1 + 1, i, h, nx, o, a, ac, s, outs, hm, _, x, p, ok, lo0, w, hd, hlen => by
    rw [F17_L1_eq, if_neg (by simp; omega), show cmds.drop i = [] from List.drop_eq_nil_of_le (by omega)]
    refine ⟨a, ac, h, nx + 4, by simp [playP], x.le (by omega), ?_, fun j hj => (hd j hj).1⟩
    rw [show outs ++ playP s [] = outs from by simp [playP]]
    have f : Frm (fun _ => False) h nx h (nx + 4) := (Ext.refl h nx |>.le (by omega)).fr _
    exact w.go f (fun _ _ q => q) fun t r q => q.go f (fun _ _ q => q.elim) fun _ _ q => .inr q
  | m + 1, n1 + 1, i, h, nx, o, a, ac, s, outs, hm, hn1, x, p, ok, lo0, w, hd, hlen => by
    have hi : i < cmds.length := by omega
    have hdrop : cmds.drop i = cmds[i] :: cmds.drop (i + 1) := List.drop_eq_getElem_cons hi
    generalize hc : cmds[i] = c at hdrop
    have hget : cmds[i]? = some c := by rw [List.getElem?_eq_getElem hi, hc]
    have hcm : c ∈ cmds := List.mem_of_getElem? hget
    have rows1 : Rows (CmdR h nx fun _ => False) h nx (fun _ => False) ca 8 cmds := rows.go (x.fr fun _ => False) (fun _ _ q => q.elim) (fun _ _ q => q.elim) fun _ _ r => r.go (x.fr fun _ => False) (fun _ _ q => q.elim) (fun _ _ q => q.elim)
    obtain ⟨r, ⟨x5, x6, da, dc, rfl, sd, _⟩, _, hread, _⟩ := rows1.read (R := AV × AHeap × Nat) hget
    rw [F17_L1_eq, if_pos (by simp; omega)]
    dsimp only
    rw [hread]
    unfold cmdV
    simp only [mst_, mst5_]
    rw [st_all (put_same _ _ _) (by simp) (by simp) (by simp [allOne, AV.one]), put_put, ldr_all (n := 8) (put_same _ _ _) rfl]
    simp only [mst_, mst5_]
    obtain ⟨h1, hh1⟩ : ∃ h1, h1 = h.put (nx + 3) (some ⟨[.int .i64 c.kind, .str c.name, .str c.other, .int .i64 c.off, .int .i64 c.count, .int .i64 x5, .int .i64 x6, .slice da c.data.length dc], 8, true⟩) := ⟨_, rfl⟩
    rw [← hh1]
    have x1 : Ext h nx h1 (nx + 12) := by rw [hh1]; exact (Ext.refl h nx).put (by omega) (by omega)
    clear hh1
    obtain ⟨XX, hXX⟩ : ∃ XX : Nat → Prop, XX = fun j => ownOf a j ∨ j = nx + 9 ∨ j = nx + 10 := ⟨_, rfl⟩
    have hlow : ∀ j, ownOf a j → j < nx := fun j hj => w.low hj
    have p1 : PM XX h1 (nx + 12) S o k s := p.more x1 (fun j hj hlt => by rw [hXX] at hj; rcases hj with hj | hj | hj; exact hj; omega; omega) (fun j hj => by rw [hXX] at hj; rcases hj with hj | hj | hj; have := hlow j hj; omega; omega; omega)
    obtain ⟨row, h2, n2, o2, e, ⟨d, u, rfl, ⟨ba, bc, rfl, d1, d2⟩, ⟨ua, uc, rfl, u1, u2⟩⟩, q, f, ho⟩ := do_spec (n := n) hn Y p1 ok c x5 x6 dc (sd.ext x1) (hsz c hcm).1 (hsz c hcm).2
    unfold cmdV at e
    rw [e]
    simp only [mst_, mst5_]
    have lS := p.lS; have lo := p.lo; have lk := p.lk
    have hn2 : nx + 12 ≤ n2 := f.1
    obtain ⟨A1, hA1⟩ : ∃ A1 : Nat → Prop, A1 = fun j => Bst S o2 k j ∨ XX j := ⟨_, rfl⟩
    have f2 : Frm (Bst S o k) h nx h2 n2 := ⟨by omega, fun j hj hb => (f.2 j (by omega) hb).trans (x1.2 j hj)⟩
    -- what is told so far, and now
    have w1 : OwnRows (ToldR h2 n2 A1) h2 (nx + 9) a 5 outs := by
      have f3 : Frm (Bst S o k) h nx h2 (nx + 9) := ⟨by omega, f2.2⟩
      refine w.go f3 (fun j hj => (hd j hj).2) fun t r qq => qq.go f2 (fun j _ hb => .inl hb) fun j hj hb => ?_
      rw [hA1, hXX] at hb
      rcases hb with hb | hb | hb | hb
      · left; unfold Bst at *; omega
      · exact .inr hb
      · omega
      · omega
    have t1 : ToldR h2 n2 A1 (stepP s c).1 [.int .i64 (stepP s c).1.code, .bool false, .int .i64 (stepP s c).1.size, .slice ba (stepP s c).1.data.length bc, .slice ua (stepP s c).1.names.length uc] := by
      have g : ∀ j, j < n2 → A1 j → (j < nx + 12 ∨ j = o2) := fun j hj hb => by
        rw [hA1, hXX] at hb
        rcases hb with hb | hb | hb | hb
        · unfold Bst at hb; omega
        · have := hlow j hb; omega
        · omega
        · omega
      exact ⟨_, _, rfl, ⟨ba, bc, rfl, d1, d2.go d1 g⟩, ⟨ua, uc, rfl, u1, u2.go u1 g⟩⟩
    obtain ⟨ee, a1, a2, a3, a4, a5, a6, a7, a8⟩ := w1.push ac (bytes := 72) (id := nx + 9) (id2 := nx + 10) (x := (stepP s c).1) (r := [.int .i64 (stepP s c).1.code, .bool false, .int .i64 (stepP s c).1.size, .slice ba (stepP s c).1.data.length bc, .slice ua (stepP s c).1.names.length uc]) rfl t1 (growOk_of (by omega) (by omega)) (Nat.le_refl _) (by omega)
    rw [a1]
    simp only [mst_, mst5_]
    rw [a2]
    simp only [mst_, mst5_]
    rw [wsucc (by omega)]
    -- the loop goes on
    have fX : Frm XX h2 n2 ((h2.put (nx + 9) (some ⟨[.int .i64 (stepP s c).1.code, .bool false, .int .i64 (stepP s c).1.size, .slice ba (stepP s c).1.data.length bc, .slice ua (stepP s c).1.names.length uc], 5, true⟩)).puts ee.sets) (n2 + 2) := ⟨by omega, fun j hj hb => by
      rw [hXX] at hb
      rw [puts_get _ _ (fun hm => hb (by rcases a8 j hm with h | h; exact .inl h; exact .inr (.inr h))), put_ne (fun h => hb (.inr (.inl h)))]⟩
    generalize (h2.put (nx + 9) (some ⟨[.int .i64 (stepP s c).1.code, .bool false, .int .i64 (stepP s c).1.size, .slice ba (stepP s c).1.data.length bc, .slice ua (stepP s c).1.names.length uc], 5, true⟩)).puts ee.sets = h3 at *
    have hown : ∀ j, ownOf ee.a j → j = nx + 10 := fun j ⟨oo, hj⟩ => by rw [a3] at hj; exact (Prod.mk.inj (Option.some.inj hj)).1.symm
    have hXB : ∀ j, XX j → ¬ Bst S o2 k j := fun j hj hb => by
      rw [hXX] at hj
      rcases hj with hj | hj | hj
      · have q1 := (hd j hj).2; have := hlow j hj; unfold Bst at *; omega
      · unfold Bst at hb; omega
      · unfold Bst at hb; omega
    have p3 : PM (ownOf ee.a) h3 (n2 + 2) S o2 k (stepP s c).2 := (q.other fX hXB).more (Ext.refl h3 (n2 + 2)) (fun j hj _ => by rw [hXX]; exact .inr (.inr (hown j hj))) fun j hj => by have := hown j hj; omega
    have w2 : OwnRows (ToldR h3 (n2 + 2) fun j => Bst S o2 k j ∨ ownOf ee.a j) h3 (n2 + 2) ee.a 5 (outs ++ [(stepP s c).1]) := by
      have f5 : Frm (fun _ => False) h3 (nx + 9 + 1 + 1) h3 (n2 + 2) := ⟨by omega, fun _ _ _ => rfl⟩
      refine a5.go f5 (fun _ _ q => q) fun t r qq => qq.go fX (fun j _ hj => by rw [hA1]; exact .inr hj) fun j _ hj => ?_
      rw [hA1]
      rcases hj with hj | hj
      · exact .inl hj
      · right; rw [hXX]; exact .inr (.inr (hown j hj))
    have x3 : Ext h0 n0 h3 (n2 + 2) := ⟨by have := x.1; omega, fun j hj => by
      have hx1 := x.1
      rw [fX.2 j (by omega) (fun hb => by rw [hXX] at hb; rcases hb with hb | hb | hb; have := (hd j hb).1; omega; omega; omega), f2.2 j (by omega) (fun hb => by unfold Bst at hb; omega)]
      exact x.2 j hj⟩
    have hlen2 : (outs ++ [(stepP s c).1]).length = i + 1 := by simp [hlen]
    obtain ⟨a', ac', h', nx', g1, g2, g3, g4⟩ := play_loop (lf := lf) hn Y cc rows hcl hsz lS0 lk0 m n1 (i + 1) h3 (n2 + 2) o2 ee.a ee.c (stepP s c).2 (outs ++ [(stepP s c).1]) (by omega) (by omega) x3 p3 (step_ok ok c) (by have := x.1; omega) w2
      (fun j hj => by have := hown j hj; have := x.1; exact ⟨by omega, by unfold Bst; omega⟩) hlen2
    have hee : ee.n = (outs ++ [(stepP s c).1]).length := by rw [a4]; simp
    have hfin : outs ++ playP s (cmds.drop i) = (outs ++ [(stepP s c).1]) ++ playP (stepP s c).2 (cmds.drop (i + 1)) := by rw [hdrop]; simp [playP]
    rw [hfin]
    rw [hee]
    exact ⟨a', ac', h', nx', g1, g2, g3, g4⟩
end Go.Proofs.Ytncmdbpoceilgaa.T

/- Pools: Play, pooled. -/
namespace Go.Proofs.Ytncmdbpoceilgaa.T
open Go Go.RowKit Go.Proofs
set_option maxRecDepth 10000

def s0 : Pl := ⟨[], []⟩
theorem s0_ok : s0.Ok := ⟨fun x hx => (by cases hx), (by simp [s0]), fun x hx => (by cases hx), (by simp [s0])⟩
def Small (cmds : List Cmd) : Prop := ∀ c ∈ cmds, c.name.size ≤ 1000 ∧ c.other.size ≤ 1000

theorem play_spec {n : Nat} (hn : 1400 ≤ n) (Y : YldF) {h : AHeap} {nx : Nat} {ca : Option (Nat × Nat)} (cc : Option Nat) {cmds : List Cmd} {A0 : Nat → Prop} (rows : Rows (CmdR h nx A0) h nx A0 ca 8 cmds) (hcl : cmds.length ≤ 300) (hsz : Small cmds) :
    ∃ a ac h' nx', callP Try.prog keepT n Y 17 [.slice ca cmds.length cc] h nx = some (.tuple [.slice a (playP s0 cmds).length ac, .int .i64 0], h', nx') ∧ Ext h nx h' nx' ∧ OwnRows (ToldR h' nx' (ownOf a)) h' nx' a 5 (playP s0 cmds) ∧ ∀ j, ownOf a j → nx ≤ j := by
  obtain ⟨n, rfl⟩ : ∃ m, n = m + 2 := ⟨n - 2, by omega⟩
  rw [F17_eq, if_neg (by simp; omega), F20_eq]
  dsimp only
  rw [some_bind]
  dsimp only
  rw [asP_ptr, some_bind]
  obtain ⟨h1, hh1⟩ : ∃ h1, h1 = AHeap.put (AHeap.put (AHeap.put h (nx + 7 + 1) (some ⟨[], MB, true⟩)) (nx + 7 + 2) (some ⟨[], MB, true⟩)) (nx + 7 + 5) (some ⟨[.mapv (some (nx + 7 + 1)), .mapv (some (nx + 7 + 2)), .slice none 0 none], 3, true⟩) := ⟨_, rfl⟩
  rw [← hh1]
  have x : Ext h nx h1 (nx + 18) := by
    rw [hh1]; exact (((Ext.refl h nx).put (m' := nx) (by omega) (Nat.le_refl _)).put (m' := nx) (by omega) (Nat.le_refl _)).put (by omega) (by omega)
  have p : PM (ownOf none) h1 (nx + 18) (nx + 7 + 5) (nx + 7 + 1) (nx + 7 + 2) s0 := by
    refine ⟨by rw [hh1, put_same], ⟨[], by rw [hh1, put_ne (by omega), put_ne (by omega), put_same], rfl⟩, ⟨[], by rw [hh1, put_ne (by omega), put_same], rfl⟩, by omega, by omega, by omega, by omega, by omega, by omega, fun i hi => ?_⟩
    obtain ⟨o, e⟩ := hi; cases e
  obtain ⟨a, ac, h', nx', g1, g2, g3, g4⟩ := play_loop (n := n + 1) (lf := n + 1) (S := nx + 7 + 5) (k := nx + 7 + 2) (by omega) Y cc rows hcl hsz (by omega) (by omega) cmds.length (n + 1) 0 h1 (nx + 18) (nx + 7 + 1) none none s0 [] (by omega) (by omega) x p s0_ok (by omega)
    (OwnRows.nil _ _ _ _) (fun j ⟨o, e⟩ => by cases e) rfl
  rw [List.nil_append, List.drop_zero] at g1 g3
  exact ⟨a, ac, h', nx', g1, g2, g3, g4⟩

theorem pooled_spec {n : Nat} (hn : 1500 ≤ n) (Y : YldF) {h : AHeap} {nx : Nat} {ca : Option (Nat × Nat)} (cc : Option Nat) {cmds : List Cmd} {A0 : Nat → Prop} (rows : Rows (CmdR h nx A0) h nx A0 ca 8 cmds) (hcl : cmds.length ≤ 300) (hsz : Small cmds) :
    ∃ a ac h' nx', callP Try.prog keepT n Y 11 [.slice ca cmds.length cc] h nx = some (.tuple [.slice a (playP s0 cmds).length ac, .bool true], h', nx') ∧ Ext h nx h' nx' ∧ OwnRows (ToldR h' nx' (ownOf a)) h' nx' a 5 (playP s0 cmds) ∧ ∀ j, ownOf a j → nx ≤ j := by
  obtain ⟨n, rfl⟩ : ∃ m, n = m + 1 := ⟨n - 1, by omega⟩
  obtain ⟨rs, q, len, s, _⟩ := rows
  obtain ⟨rd, e1⟩ := s.src'
  rw [F11_eq, e1, some_bind]
  obtain ⟨e, f1, f2, f3, f4⟩ := copyOf (h := h) (nx := nx) (bytes := 96) (id := nx + 3) (rd := rd) s.1 (growOk_of (by omega) (by omega)) (by omega)
  rw [f1, some_bind]
  dsimp only
  rw [f2]
  have x : Ext h nx (h.puts e.sets) (nx + 10) := f4.le (by omega)
  have rows2 : Rows (CmdR (h.puts e.sets) (nx + 10) fun _ => False) (h.puts e.sets) (nx + 10) (fun _ => False) e.a 8 cmds :=
    ⟨rs, q.mono fun c r b => b.go (x.fr fun _ => False) (fun _ _ q => q.elim) (fun _ _ q => q.elim), len, (f3.le (by omega : nx + 3 + 1 ≤ nx + 10)).sl, fun _ _ _ q => q⟩
  obtain ⟨a, ac, h', nx', g1, g2, g3, g4⟩ := play_spec (n := n) (by omega) Y e.c rows2 hcl hsz
  rw [g1]
  simp only [mst_, mst5_]
  rw [if_pos (by rfl), playP_len]
  refine ⟨a, ac, h', nx' + 12, ?_, (x.trans (g2.from (Nat.le_refl _))).le (by omega), ?_, fun j hj => by have := g4 j hj; omega⟩
  · simp
  · exact g3.go (D := fun _ => False) ⟨by omega, fun _ _ _ => rfl⟩ (fun _ _ q => q) fun t r q => q.go (D := fun _ => False) ⟨by omega, fun _ _ _ => rfl⟩ (fun _ _ q => q.elim) fun _ _ q => q
end Go.Proofs.Ytncmdbpoceilgaa.T

/- Pools: the same told; begun. -/
namespace Go.Proofs.Ytncmdbpoceilgaa.T
open Go Go.RowKit Go.Proofs
set_option maxRecDepth 10000

theorem bytes_loop (call : YldF → CallF) (Y : YldF) (lf : Nat) {h : AHeap} {nx1 nx2 : Nat} {a b : Option (Nat × Nat)} (ac bc : Option Nat) {bs : List Int} (s1 : Sl h nx1 a bs.length 1 (ints .u8 bs)) (s2 : Sl h nx2 b bs.length 1 (ints .u8 bs)) (hl : bs.length ≤ 1000000) :
    ∀ (k n0 i nx : Nat), bs.length = i + k → k < n0 → ∃ nx', F18_L1 call Y lf n0 a bs.length ac b bs.length bc (i : Int) h nx = some (.bool true, h, nx') ∧ nx ≤ nx'
  | 0, n0 + 1, i, nx, hk, _ => by
    rw [F18_L1_eq, if_neg (by simp; omega)]; exact ⟨_, rfl, by omega⟩
  | k + 1, n0 + 1, i, nx, hk, hn => by
    rw [F18_L1_eq, if_pos (by simp; omega), s1.readI (by omega)]
    simp only [mst_, mst5_]
    rw [s2.readI (by omega)]
    simp only [mst_, mst5_]
    rw [if_neg (by simp), wsucc (by omega)]
    obtain ⟨nx', e, l⟩ := bytes_loop call Y lf ac bc s1 s2 hl k n0 (i + 1) (nx + 16) (by omega) (by omega)
    exact ⟨nx', e, by omega⟩
theorem texts_loop (call : YldF → CallF) (Y : YldF) (lf : Nat) {h : AHeap} {nx1 nx2 : Nat} {a b : Option (Nat × Nat)} (ac bc : Option Nat) {ns : List ByteArray} (s1 : Sl h nx1 a ns.length 1 (ns.map AV.str)) (s2 : Sl h nx2 b ns.length 1 (ns.map AV.str)) (hl : ns.length ≤ 1000000) :
    ∀ (k n0 i nx : Nat), ns.length = i + k → k < n0 → ∃ nx', F19_L1 call Y lf n0 a ns.length ac b ns.length bc (i : Int) h nx = some (.bool true, h, nx') ∧ nx ≤ nx'
  | 0, n0 + 1, i, nx, hk, _ => by
    rw [F19_L1_eq, if_neg (by simp; omega)]; exact ⟨_, rfl, by omega⟩
  | k + 1, n0 + 1, i, nx, hk, hn => by
    have hi : i < ns.length := by omega
    have hg : (ns.map AV.str)[Int.toNat (i : Int) * 1]? = some (.str ns[i]) := by
      rw [Int.toNat_natCast, Nat.mul_one, List.getElem?_map, List.getElem?_eq_getElem hi]; rfl
    rw [F19_L1_eq, if_pos (by simp; omega), s1.read0 (by omega) (by omega) (by omega) hg]
    simp only [mst_, mst5_]
    rw [s2.read0 (by omega) (by omega) (by omega) hg]
    simp only [mst_, mst5_]
    rw [if_neg (by simp), wsucc (by omega)]
    obtain ⟨nx', e, l⟩ := texts_loop call Y lf ac bc s1 s2 hl k n0 (i + 1) (nx + 16) (by omega) (by omega)
    exact ⟨nx', e, by omega⟩

/-- SameTold, of what is told alike. -/
theorem same_told {n : Nat} (hn : 5000 ≤ n) (Y : YldF) {h : AHeap} {nx : Nat} {t : Tld} {r1 r2 : List AV} {A1 A2 : Nat → Prop} (w1 : ToldR h nx A1 t r1) (w2 : ToldR h nx A2 t r2) (hd : t.data.length ≤ 2000) (hm : t.names.length ≤ 2000) :
    ∃ h' nx', callP Try.prog keepT n Y 13 [.agg r1, .agg r2] h nx = some (.bool true, h', nx') ∧ Ext h nx h' nx' := by
  obtain ⟨n, rfl⟩ : ∃ m, n = m + 2 := ⟨n - 2, by omega⟩
  obtain ⟨_, _, rfl, ⟨da, dc, rfl, d1, _⟩, ⟨ua, uc, rfl, u1, _⟩⟩ := w1
  obtain ⟨_, _, rfl, ⟨ea, ec, rfl, e1, _⟩, ⟨va, vc, rfl, v1, _⟩⟩ := w2
  rw [F13_eq]
  dsimp only
  obtain ⟨h2, hh2⟩ : ∃ h2, h2 = AHeap.put (AHeap.put h nx (some ⟨[.int .i64 t.code, .bool false, .int .i64 t.size, .slice da t.data.length dc, .slice ua t.names.length uc], 5, true⟩)) (nx + 1) (some ⟨[.int .i64 t.code, .bool false, .int .i64 t.size, .slice ea t.data.length ec, .slice va t.names.length vc], 5, true⟩) := ⟨_, rfl⟩
  rw [← hh2]
  have b1 : h2 nx = some ⟨[.int .i64 t.code, .bool false, .int .i64 t.size, .slice da t.data.length dc, .slice ua t.names.length uc], 5, true⟩ := by rw [hh2, put_ne (by omega), put_same]
  have b2 : h2 (nx + 1) = some ⟨[.int .i64 t.code, .bool false, .int .i64 t.size, .slice ea t.data.length ec, .slice va t.names.length vc], 5, true⟩ := by rw [hh2, put_same]
  have x2 : Ext h nx h2 (nx + 2) := by rw [hh2]; exact ((Ext.refl h nx).put (m' := nx + 1) (by omega) (by omega)).put (by omega) (by omega)
  clear hh2
  rw [ld_at b1 (show _ = some (AV.int .i64 t.code) from rfl)]
  simp only [mst_, mst5_]
  rw [ld_at b2 (show _ = some (AV.int .i64 t.code) from rfl)]
  simp only [mst_, mst5_]
  rw [if_pos (by simp), ld_at b1 (show _ = some (AV.bool false) from rfl)]
  simp only [mst_, mst5_]
  rw [ld_at b2 (show _ = some (AV.bool false) from rfl)]
  simp only [mst_, mst5_]
  rw [if_pos (by simp), ld_at b1 (show _ = some (AV.int .i64 t.size) from rfl)]
  simp only [mst_, mst5_]
  rw [ld_at b2 (show _ = some (AV.int .i64 t.size) from rfl)]
  simp only [mst_, mst5_]
  rw [if_pos (by simp), ld_at b1 (show _ = some (AV.slice da t.data.length dc) from rfl)]
  simp only [mst_, mst5_]
  rw [ld_at b2 (show _ = some (AV.slice ea t.data.length ec) from rfl)]
  simp only [mst_, mst5_]
  rw [F18_eq, if_neg (by simp)]
  obtain ⟨n3, g1, g2⟩ := bytes_loop (callP Try.prog keepT n) Y n dc ec (d1.ext x2) (e1.ext x2) (by omega) t.data.length n 0 (nx + 37 + 7) (by omega) (by omega)
  rw [show ((0 : Nat) : Int) = 0 from rfl] at g1
  rw [g1]
  simp only [mst_, mst5_]
  rw [if_pos trivial, ld_at b1 (show _ = some (AV.slice ua t.names.length uc) from rfl)]
  simp only [mst_, mst5_]
  rw [ld_at b2 (show _ = some (AV.slice va t.names.length vc) from rfl)]
  simp only [mst_, mst5_]
  rw [F19_eq, if_neg (by simp)]
  obtain ⟨n4, g3, g4⟩ := texts_loop (callP Try.prog keepT n) Y n uc vc (u1.ext x2) (v1.ext x2) (by omega) t.names.length n 0 (n3 + 7) (by omega) (by omega)
  rw [show ((0 : Nat) : Int) = 0 from rfl] at g3
  rw [g3]
  simp only [mst_, mst5_]
  exact ⟨_, _, rfl, x2.le (by omega)⟩

/-! ### begun -/
def nA : ByteArray := ByteArray.mk #[97]
def nE : ByteArray := ByteArray.mk #[]
def begunC : List Cmd := [⟨1, nA, nE, 0, 0, []⟩, ⟨2, nA, nE, 0, 0, [5]⟩, ⟨3, nA, nE, 0, 9, []⟩]
theorem begun_play : playP s0 begunC = [⟨0, 0, [], []⟩, ⟨0, 1, [], []⟩, ⟨0, 1, [5], []⟩] := by
  have g : goodName nA = true := by decide
  have r : roomP ([] : Objs) nA 4 = 0 := by simp [roomP, g, getO]
  simp [begunC, playP, stepP, s0, r, setO, getO, objectP, writeP, wideP, fetchP, noT]

theorem begun_spec {n : Nat} (hn : 2000 ≤ n) (Y : YldF) (h : AHeap) (nx : Nat) : ∃ h' nx', callP Try.prog keepT n Y 12 [] h nx = some (.bool true, h', nx') ∧ Ext h nx h' nx' := by
  obtain ⟨n, rfl⟩ : ∃ m, n = m + 2 := ⟨n - 2, by omega⟩
  rw [F12_eq]
  dsimp only
  obtain ⟨h1, hh1⟩ : ∃ h1, h1 = AHeap.put h (nx + 2) (some ⟨[(.int .u8 5)], 1, true⟩) := ⟨_, rfl⟩
  rw [← hh1]
  have b1 : h1 (nx + 2) = some ⟨ints .u8 [5], 1, true⟩ := by rw [hh1, put_same]; rfl
  have x1 : Ext h nx h1 (nx + 5) := by rw [hh1]; exact (Ext.refl h nx).put (by omega) (by omega)
  clear hh1
  have q : ∀ (h2 : AHeap), h2 = h1.put (nx + 5) (some ⟨[cmdV ⟨1, nA, nE, 0, 0, []⟩ 0 0 none none, cmdV ⟨2, nA, nE, 0, 0, [5]⟩ 0 0 (some (nx + 2, 0)) (some 1), cmdV ⟨3, nA, nE, 0, 9, []⟩ 0 0 none none].flatten, 8, true⟩) → Rows (CmdR h2 (nx + 12) fun _ => False) h2 (nx + 12) (fun _ => False) (some (nx + 5, 0)) 8 begunC := fun h2 e => by
    have hb : h2 (nx + 2) = some ⟨ints .u8 [5], 1, true⟩ := by rw [e, put_ne (by omega)]; exact b1
    have nil : ∀ (c : Cmd), c.data = [] → CmdR h2 (nx + 12) (fun _ => False) c (cmdV c 0 0 none none) := fun c hc => ⟨0, 0, none, none, rfl, by rw [hc]; exact ⟨rfl, fun j hj => by simp at hj⟩, fun _ _ _ q => q⟩
    refine ⟨_, ⟨_, _, rfl, nil _ rfl, _, _, rfl, ⟨0, 0, some (nx + 2, 0), some 1, rfl, Sl.block hb (by omega), fun _ _ _ q => q⟩, _, _, rfl, nil _ rfl, rfl⟩, ?_, ⟨rfl, fun j hj => ⟨(nx + 5, 0), _, rfl, by simp, by rw [e, put_same], rfl, by simp [begunC, cmdV], fun q hq => by simp⟩⟩, fun _ _ _ q => q⟩
    intro r hr
    simp only [List.mem_cons, List.not_mem_nil, or_false] at hr
    rcases hr with rfl | rfl | rfl <;> rfl
  obtain ⟨h2, hh2⟩ : ∃ h2, h2 = h1.put (nx + 5) (some ⟨[cmdV ⟨1, nA, nE, 0, 0, []⟩ 0 0 none none, cmdV ⟨2, nA, nE, 0, 0, [5]⟩ 0 0 (some (nx + 2, 0)) (some 1), cmdV ⟨3, nA, nE, 0, 9, []⟩ 0 0 none none].flatten, 8, true⟩) := ⟨_, rfl⟩
  have x2 : Ext h nx h2 (nx + 12) := by rw [hh2]; exact x1.put (by omega) (by omega)
  have rows := q h2 hh2
  obtain ⟨a, ac, h', nx', g1, g2, g3, _⟩ := pooled_spec (n := n + 1) (by omega) Y (some 3) rows (by simp [begunC]) (fun c hc => by
    simp only [begunC, List.mem_cons, List.not_mem_nil, or_false] at hc
    rcases hc with rfl | rfl | rfl <;> exact ⟨by decide, by decide⟩)
  rw [begun_play] at g1 g3
  have g1' : callP Try.prog keepT (n + 1) Y 11 [.slice (some (nx + 5, 0)) 3 (some 3)] h2 (nx + 12) = some (.tuple [.slice a 3 ac, .bool true], h', nx') := g1
  have hh2' : h2 = h1.put (nx + 5) (some ⟨[(.int .i64 1), (.str (ByteArray.mk #[97])), (.str (ByteArray.mk #[])), (.int .i64 0), (.int .i64 0), (.int .i64 0), (.int .i64 0), (.slice none 0 none), (.int .i64 2), (.str (ByteArray.mk #[97])), (.str (ByteArray.mk #[])), (.int .i64 0), (.int .i64 0), (.int .i64 0), (.int .i64 0), (.slice (some (nx + 2, 0)) 1 (some 1)), (.int .i64 3), (.str (ByteArray.mk #[97])), (.str (ByteArray.mk #[])), (.int .i64 0), (.int .i64 9), (.int .i64 0), (.int .i64 0), (.slice none 0 none)], 8, true⟩) := hh2
  rw [← hh2', g1']
  simp only [mst_, mst5_]
  have rows3 := g3.rows (A := fun _ => False) fun _ _ q => q
  obtain ⟨r, ⟨d, u, rfl, ⟨ba, bc, rfl, d1, d2⟩, _⟩, _, _, hrd0⟩ := rows3.read (R := AV × AHeap × Nat) (i := 2) (x := ⟨0, 1, [5], []⟩) rfl
  have hrd : ∀ (f : Nat) (v : AV) (K : AV → Option (AV × AHeap × Nat)), f < 5 → ([AV.int .i64 0, AV.bool false, AV.int .i64 1, AV.slice ba 1 bc, u] : List AV)[f]? = some v → (a.bind fun p => if 0 ≤ (2 : Int) ∧ (2 : Int) < ((3 : Nat) : Int) then (ldA h' p.1 (p.2 + Int.toNat 2 * 5 + f)).bind K else none) = K v := fun f v K hf hv => hrd0 f v K hf hv
  have rd : ∀ K : AV → Option (AV × AHeap × Nat), (ba.bind fun p => if 0 ≤ (0 : Int) ∧ (0 : Int) < ((1 : Nat) : Int) then (ldA h' p.1 (p.2 + Int.toNat 0 * 1)).bind K else none) = K (.int .u8 5) := fun K => d1.readI (i := 0) (by simp) K
  rw [if_pos trivial, hrd 2 (.int .i64 1) _ (by omega) rfl]
  simp only [mst_, mst5_]
  rw [if_pos (by rfl), hrd 3 (.slice ba 1 bc) _ (by omega) rfl]
  simp only [mst_, mst5_]
  rw [if_pos (by rfl), hrd 3 (.slice ba 1 bc) _ (by omega) rfl]
  simp only [mst_, mst5_]
  rw [rd]
  simp only [mst_, mst5_]
  exact ⟨_, _, rfl, ⟨by have := x2.1; have := g2.1; omega, fun i hi => (g2.2 i (by have := x2.1; omega)).trans (x2.2 i hi)⟩⟩
end Go.Proofs.Ytncmdbpoceilgaa.T

/- Pools: what commands are made of. -/
namespace Go.Proofs.Ytncmdbpoceilgaa.T
open Go Go.RowKit Go.Proofs
set_option maxRecDepth 10000

def pickL (x n : Int) : Int := if Int.tmod x n < 0 then Int.tmod x n + n else Int.tmod x n
def pickK (x n : Int) : Nat := if Int.tmod x n < 0 then 11 else 9
theorem pickL_bounds (x n : Int) (h : 0 < n) : 0 ≤ pickL x n ∧ pickL x n < n := by
  have h1 := Int.tmod_lt_of_pos x h
  have h2 : -n < Int.tmod x n := by
    have := Int.lt_tmod_of_pos x h
    omega
  unfold pickL; split <;> omega
theorem picked_spec {f : Nat} (hf : 1 ≤ f) (Y : YldF) (x n : Int) (h0 : 0 < n) (h1 : n ≤ 100000000) (h : AHeap) (nx : Nat) : callP Try.prog keepT f Y 15 [.int .i64 x, .int .i64 n] h nx = some (.int .i64 (pickL x n), h, nx + pickK x n) := by
  obtain ⟨f, rfl⟩ : ∃ m, f = m + 1 := ⟨f - 1, by omega⟩
  have h2 := Int.tmod_lt_of_pos x h0
  have h3 : -n < Int.tmod x n := by
    have := Int.lt_tmod_of_pos x h0
    omega
  rw [F15_eq, if_neg (by omega)]
  unfold pickL pickK
  by_cases c : Int.tmod x n < 0
  · rw [if_pos (decide_eq_true c), if_pos c, if_pos c, wA (by omega) (by omega)]
  · rw [if_neg (by simpa using c), if_neg c, if_neg c]

def objN : List ByteArray := [ByteArray.mk #[97], ByteArray.mk #[98], ByteArray.mk #[99, 51], ByteArray.mk #[122, 122], ByteArray.mk #[101]]
def snpN : List ByteArray := [ByteArray.mk #[115], ByteArray.mk #[116], ByteArray.mk #[117, 48], ByteArray.mk #[118]]
def objName (n : Int) : ByteArray := objN.getD (pickL n 5).toNat nE
def snpName (n : Int) : ByteArray := snpN.getD (pickL n 4).toNat nE
theorem objectName_spec {f : Nat} (hf : 2 ≤ f) (Y : YldF) (x : Int) (h : AHeap) (nx : Nat) : callP Try.prog keepT f Y 9 [.int .i64 x] h nx = some (.str (objName x), h.put (nx + 1) (some ⟨objN.map AV.str, 1, true⟩), nx + 7 + pickK x 5) := by
  obtain ⟨f, rfl⟩ : ∃ m, f = m + 1 := ⟨f - 1, by omega⟩
  obtain ⟨b1, b2⟩ := pickL_bounds x 5 (by decide)
  rw [F9_eq]
  dsimp only
  rw [picked_spec (by omega) Y x 5 (by decide) (by decide)]
  simp only [mst_, mst5_]
  have hi : (pickL x 5).toNat < objN.length := by show _ < 5; omega
  rw [if_pos (by omega), ld_at (put_same _ _ _) (show _ = some (AV.str (objName x)) from by
    rw [Nat.zero_add, Nat.mul_one]
    show (objN.map AV.str)[(pickL x 5).toNat]? = _
    rw [List.getElem?_map, List.getElem?_eq_getElem hi]
    simp [objName, List.getD_eq_getElem?_getD, List.getElem?_eq_getElem hi])]
  simp only [mst_, mst5_]
  rfl
theorem snapName_spec {f : Nat} (hf : 2 ≤ f) (Y : YldF) (x : Int) (h : AHeap) (nx : Nat) : callP Try.prog keepT f Y 16 [.int .i64 x] h nx = some (.str (snpName x), h.put (nx + 1) (some ⟨snpN.map AV.str, 1, true⟩), nx + 7 + pickK x 4) := by
  obtain ⟨f, rfl⟩ : ∃ m, f = m + 1 := ⟨f - 1, by omega⟩
  obtain ⟨b1, b2⟩ := pickL_bounds x 4 (by decide)
  rw [F16_eq]
  dsimp only
  rw [picked_spec (by omega) Y x 4 (by decide) (by decide)]
  simp only [mst_, mst5_]
  have hi : (pickL x 4).toNat < snpN.length := by show _ < 4; omega
  rw [if_pos (by omega), ld_at (put_same _ _ _) (show _ = some (AV.str (snpName x)) from by
    rw [Nat.zero_add, Nat.mul_one]
    show (snpN.map AV.str)[(pickL x 4).toNat]? = _
    rw [List.getElem?_map, List.getElem?_eq_getElem hi]
    simp [snpName, List.getD_eq_getElem?_getD, List.getElem?_eq_getElem hi])]
  simp only [mst_, mst5_]
  rfl

def blockP (d : List Int) (n : Nat) : List Int := if d.length = 0 then [7] else d.take n
theorem block_spec {f : Nat} (hf : 1 ≤ f) (Y : YldF) {h : AHeap} {nx : Nat} {a : Option (Nat × Nat)} (c : Option Nat) {d : List Int} (s : Sl h nx a d.length 1 (ints .u8 d)) {n : Nat} (hn : 1 ≤ n ∧ n ≤ 1000000) :
    ∃ v h' nx', callP Try.prog keepT f Y 14 [.slice a d.length c, .int .i64 (n : Int)] h nx = some (v, h', nx') ∧ Ext h nx h' nx' ∧ Byt .u8 h' nx' (Old nx) v (blockP d n) := by
  obtain ⟨f, rfl⟩ : ∃ m, f = m + 1 := ⟨f - 1, by omega⟩
  rw [F14_eq]
  unfold blockP
  by_cases h0 : d.length = 0
  · rw [if_pos (by rw [beq_iff_eq]; omega), if_pos h0]
    exact ⟨_, _, _, rfl, (Ext.refl h nx).put (by omega) (by omega), Byt.block (bs := [7]) (some 1) (put_same _ _ _) (by omega) (by omega)⟩
  · rw [if_neg (by rw [beq_iff_eq]; omega), if_neg h0]
    have hX : (if (n : Int) < ((d.length : Nat) : Int) then (n : Int) else ((d.length : Nat) : Int)) = ((min n d.length : Nat) : Int) := by split <;> omega
    rw [hX]
    obtain ⟨c1, c2, _⟩ := s.cut c (lo := 0) (hi := min n d.length) (by omega) (by omega) (l := none) (r := some (.int .i64 ((min n d.length : Nat) : Int))) rfl (bound_some (by omega))
    rw [c1, some_bind]
    try dsimp only
    obtain ⟨rd, e1⟩ := c2.src'
    rw [e1, some_bind]
    obtain ⟨e, f1, f2, f3, f4⟩ := copyOf (h := h) (nx := nx) (bytes := 1) (id := nx + 10) (rd := rd) c2.1 (growOk_of (by omega) (by omega)) (by omega)
    rw [f1, some_bind]
    try dsimp only
    rw [f2]
    have hc : (((ints .u8 d).drop (0 * 1)).take ((min n d.length - 0) * 1)) = ints .u8 (d.take n) := by
      simp only [Nat.zero_mul, List.drop_zero, Nat.sub_zero, Nat.mul_one, take_ints]
      congr 1
      rw [List.take_eq_take_iff]; simp
    have hl : min n d.length - 0 = (d.take n).length := by simp
    rw [hc, hl] at f3
    rw [hl]
    exact ⟨_, _, nx + 12, rfl, f4.le (by omega), _, _, rfl, (f3.le (by omega : nx + 10 + 1 ≤ nx + 12)).sl, f3.av fun i hi _ => by unfold Old; omega⟩

structure Ord where
  kind : Int
  name : Int
  other : Int
  off : Int
  count : Int
  data : List Int
def ordV (o : Ord) (da : Option (Nat × Nat)) (dc : Option Nat) : List AV := [.int .i64 o.kind, .int .i64 o.name, .int .i64 o.other, .int .i64 o.off, .int .i64 o.count, .slice da o.data.length dc]
def OrdR (h : AHeap) (nx : Nat) (A : Nat → Prop) (o : Ord) (r : List AV) : Prop := ∃ da dc, r = ordV o da dc ∧ Sl h nx da o.data.length 1 (ints .u8 o.data) ∧ Av A da o.data.length
def kindOf (o : Ord) (kinds : List Int) : Int := kinds.getD (pickL o.kind kinds.length).toNat 0
def cmdOf (o : Ord) (kinds : List Int) : Cmd := ⟨kindOf o kinds, objName o.name, snpName o.other, pickL o.off 1100, pickL o.count 1100, if kindOf o kinds = 2 then blockP o.data 400 else []⟩

theorem commandOf_spec {f : Nat} (hf : 10 ≤ f) (Y : YldF) {h : AHeap} {nx : Nat} (o : Ord) {da : Option (Nat × Nat)} (dc : Option Nat) (sd : Sl h nx da o.data.length 1 (ints .u8 o.data)) {ka : Option (Nat × Nat)} (kc : Option Nat) {kinds : List Int} (sk : Sl h nx ka kinds.length 1 (ints .i64 kinds)) (hk : 1 ≤ kinds.length ∧ kinds.length ≤ 1000) :
    ∃ row h' nx', callP Try.prog keepT f Y 10 [.agg (ordV o da dc), .slice ka kinds.length kc] h nx = some (.agg row, h', nx') ∧ Ext h nx h' nx' ∧ CmdR h' nx' (Old nx) (cmdOf o kinds) row := by
  obtain ⟨f, rfl⟩ : ∃ m, f = m + 5 := ⟨f - 5, by omega⟩
  obtain ⟨p, pb, rfl, lp, hpb, _⟩ := sk.2 0 (by omega)
  unfold ordV
  rw [F10_eq]
  dsimp only
  obtain ⟨h2, hh2⟩ : ∃ h2, h2 = AHeap.put (AHeap.put h nx (some ⟨[.int .i64 o.kind, .int .i64 o.name, .int .i64 o.other, .int .i64 o.off, .int .i64 o.count, .slice da o.data.length dc], 6, true⟩)) (nx + 1) (some ⟨[(.int .i64 0), (.str (ByteArray.mk #[])), (.str (ByteArray.mk #[])), (.int .i64 0), (.int .i64 0), (.int .i64 0), (.int .i64 0), (.slice none 0 none)], 8, true⟩) := ⟨_, rfl⟩
  rw [← hh2]
  have b1 : h2 nx = some ⟨[.int .i64 o.kind, .int .i64 o.name, .int .i64 o.other, .int .i64 o.off, .int .i64 o.count, .slice da o.data.length dc], 6, true⟩ := by rw [hh2, put_ne (by omega), put_same]
  have b2 : h2 (nx + 1) = some ⟨[(.int .i64 0), (.str (ByteArray.mk #[])), (.str (ByteArray.mk #[])), (.int .i64 0), (.int .i64 0), (.int .i64 0), (.int .i64 0), (.slice none 0 none)], 8, true⟩ := by rw [hh2, put_same]
  have x2 : Ext h nx h2 (nx + 2) := by rw [hh2]; exact ((Ext.refl h nx).put (m' := nx + 1) (by omega) (by omega)).put (by omega) (by omega)
  clear hh2
  obtain ⟨q1, q2⟩ := pickL_bounds o.kind (kinds.length : Int) (by omega)
  have hki : (pickL o.kind (kinds.length : Int)).toNat < kinds.length := by omega
  rw [ld_at b1 (show _ = some (AV.int .i64 o.kind) from rfl)]
  simp only [mst_, mst5_]
  rw [picked_spec (by omega) Y o.kind (kinds.length : Int) (by omega) (by omega)]
  simp only [mst_, mst5_]
  have hkg : (ints .i64 kinds)[Int.toNat (pickL o.kind (kinds.length : Int)) * 1]? = some (.int .i64 (kindOf o kinds)) := by
    rw [ints_get hki]; simp [kindOf, List.getD_eq_getElem?_getD, List.getElem?_eq_getElem hki]
  have rk := fun K : AV → Option (AV × AHeap × Nat) => (sk.ext x2).read0 q1 q2 (by omega) hkg K
  simp only [bind_some'] at rk
  rw [rk]
  simp only [mst_, mst5_]
  rw [ld_at b1 (show _ = some (AV.int .i64 o.name) from rfl)]
  simp only [mst_, mst5_]
  obtain ⟨c1, hc1⟩ : ∃ c1, c1 = nx + 25 + pickK o.kind (kinds.length : Int) := ⟨_, rfl⟩
  rw [← hc1, objectName_spec (by omega)]
  simp only [mst_, mst5_]
  obtain ⟨h3, hh3⟩ : ∃ h3, h3 = h2.put (c1 + 1) (some ⟨objN.map AV.str, 1, true⟩) := ⟨_, rfl⟩
  have k3 : ∀ i, i < nx + 25 → h3 i = h2 i := fun i hi => by rw [hh3]; exact put_ne (by omega)
  rw [← hh3, ld_at ((k3 nx (by omega)).trans b1) (show _ = some (AV.int .i64 o.other) from rfl)]
  simp only [mst_, mst5_]
  obtain ⟨c2, hc2⟩ : ∃ c2, c2 = c1 + 7 + pickK o.name 5 := ⟨_, rfl⟩
  rw [← hc2, snapName_spec (by omega)]
  simp only [mst_, mst5_]
  obtain ⟨h4, hh4⟩ : ∃ h4, h4 = h3.put (c2 + 1) (some ⟨snpN.map AV.str, 1, true⟩) := ⟨_, rfl⟩
  have k4 : ∀ i, i < nx + 25 → h4 i = h3 i := fun i hi => by rw [hh4]; exact put_ne (by omega)
  have b4 := (k4 nx (by omega)).trans ((k3 nx (by omega)).trans b1)
  rw [← hh4, ld_at b4 (show _ = some (AV.int .i64 o.off) from rfl)]
  simp only [mst_, mst5_]
  obtain ⟨c3, hc3⟩ : ∃ c3, c3 = c2 + 7 + pickK o.other 4 := ⟨_, rfl⟩
  rw [← hc3, picked_spec (by omega) Y o.off 1100 (by decide) (by decide)]
  simp only [mst_, mst5_]
  rw [ld_at b4 (show _ = some (AV.int .i64 o.count) from rfl)]
  simp only [mst_, mst5_]
  rw [picked_spec (by omega) Y o.count 1100 (by decide) (by decide)]
  simp only [mst_, mst5_]
  obtain ⟨c4, hc4⟩ : ∃ c4, c4 = c3 + pickK o.off 1100 := ⟨_, rfl⟩
  rw [← hc4]
  obtain ⟨c5, hc5⟩ : ∃ c5, c5 = c4 + pickK o.count 1100 := ⟨_, rfl⟩
  rw [← hc5]
  rw [st_all (put_same _ _ _) (by simp) (by simp) (by simp [allOne, AV.one]), put_put]
  rw [ifApart_pos (by
    have a1 : ∀ x ∈ [nx + 23], x ∉ [nx] := by simp
    have a2 : ∀ x ∈ [nx + 23], x ∉ [p.1] := by simp; omega
    have a3 : ∀ x ∈ [nx + 23], x ∉ ([] : List Nat) := by simp
    exact ⟨a1, a3, a2, a1, a1, a1, a1, trivial⟩)]
  rw [ifKept_pos (by
    have r0 : ∀ x ∈ [nx], h2 x = h2 x := fun _ _ => rfl
    have r1 : ∀ x ∈ [p.1], h3 x = h2 x := fun x hx => by rw [List.mem_singleton.1 hx]; exact k3 _ (by omega)
    have r2 : ∀ x ∈ [p.1], h4 x = h3 x := fun x hx => by rw [List.mem_singleton.1 hx]; exact k4 _ (by omega)
    have r3 : ∀ x ∈ [nx], h3 x = h2 x := fun x hx => by rw [List.mem_singleton.1 hx]; exact k3 _ (by omega)
    have r4 : ∀ x ∈ [nx], h4 x = h3 x := fun x hx => by rw [List.mem_singleton.1 hx]; exact k4 _ (by omega)
    exact ⟨r0, r0, r0, r0, r1, r2, fun _ _ => rfl, fun _ _ => rfl, r3, r3, r3, r4, r4, fun _ _ => rfl, trivial⟩)]
  rw [ifRob_pos (by
    refine ⟨fun ss _ => ?_, fun ss hs => ?_, fun ss hs => ?_, fun ss _ => ?_, fun ss _ => ?_, trivial⟩
    · simp only [callC_fn]; rw [picked_spec (by omega) Y o.kind (kinds.length : Int) (by omega) (by omega), hc1]
    · have hn : c1 + 1 ∉ ss.map (·.1) := fun hm => by
        obtain ⟨q, hq, e⟩ := List.mem_map.1 hm
        have := hs q hq
        simp at this; omega
      simp only [callC_fn]; rw [objectName_spec (by omega), hc2, hh3, put_puts _ hn]
    · have hn : c2 + 1 ∉ ss.map (·.1) := fun hm => by
        obtain ⟨q, hq, e⟩ := List.mem_map.1 hm
        have := hs q hq
        simp at this; omega
      simp only [callC_fn]; rw [snapName_spec (by omega), hc3, hh4, put_puts _ hn]
    · simp only [callC_fn]; rw [picked_spec (by omega) Y o.off 1100 (by decide) (by decide), hc4]
    · simp only [callC_fn]; rw [picked_spec (by omega) Y o.count 1100 (by decide) (by decide), hc5])]
  obtain ⟨h5, hh5⟩ : ∃ h5, h5 = h4.put (nx + 23) (some ⟨[(.int .i64 (kindOf o kinds)), (.str (objName o.name)), (.str (snpName o.other)), (.int .i64 (pickL o.off 1100)), (.int .i64 (pickL o.count 1100)), (.int .i64 0), (.int .i64 0), (.slice none 0 none)], 8, true⟩) := ⟨_, rfl⟩
  have b5 : h5 (nx + 23) = some ⟨[(.int .i64 (kindOf o kinds)), (.str (objName o.name)), (.str (snpName o.other)), (.int .i64 (pickL o.off 1100)), (.int .i64 (pickL o.count 1100)), (.int .i64 0), (.int .i64 0), (.slice none 0 none)], 8, true⟩ := by rw [hh5, put_same]
  have k5 : ∀ i, i < nx + 23 → h5 i = h2 i := fun i hi => by rw [hh5, put_ne (by omega), k4 i (by omega), k3 i (by omega)]
  rw [← hh5]
  have hlow : nx + 25 ≤ c5 := by omega
  have x5 : Ext h nx h5 (c5 + 5) := ⟨by omega, fun i hi => (k5 i (by omega)).trans (x2.2 i hi)⟩
  rw [ld_at b5 (show _ = some (AV.int .i64 (kindOf o kinds)) from rfl)]
  simp only [mst_, mst5_]
  by_cases hkd : kindOf o kinds = 2
  · rw [if_pos (by rw [beq_iff_eq]; exact hkd), ld_at ((k5 nx (by omega)).trans b1) (show _ = some (AV.slice da o.data.length dc) from rfl)]
    simp only [mst_, mst5_]
    obtain ⟨v, h6, n6, g1, g2, ⟨va, vc, rfl, g3, g4⟩⟩ := block_spec (f := f + 4) (by omega) Y dc (sd.ext (x5.le (by omega : c5 + 5 ≤ c5 + 8))) (n := 400) (by omega)
    rw [show ((400 : Nat) : Int) = 400 from rfl] at g1
    rw [g1]
    simp only [mst_, mst5_]
    have hn6 : c5 + 8 ≤ n6 := g2.1
    rw [st_to (cs' := cmdV ⟨kindOf o kinds, objName o.name, snpName o.other, pickL o.off 1100, pickL o.count 1100, blockP o.data 400⟩ 0 0 va vc) ((g2.2 _ (by omega)).trans b5) rfl (by simp) rfl, ldr_all (n := 8) (put_same _ _ _) rfl]
    unfold cmdV
    simp only [mst_, mst5_]
    rw [st_all (n := 8) (cs := [(.int .i64 0), (.str (ByteArray.mk #[])), (.str (ByteArray.mk #[])), (.int .i64 0), (.int .i64 0), (.int .i64 0), (.int .i64 0), (.slice none 0 none)]) (by rw [put_ne (by omega), g2.2 _ (by omega), k5 _ (by omega)]; exact b2) (by simp) (by simp) (by simp [allOne, AV.one]), ldr_all (n := 8) (put_same _ _ _) rfl]
    simp only [mst_, mst5_]
    have hcmd : cmdOf o kinds = ⟨kindOf o kinds, objName o.name, snpName o.other, pickL o.off 1100, pickL o.count 1100, blockP o.data 400⟩ := by unfold cmdOf; rw [if_pos hkd]
    rw [hcmd]
    have ff : Frm (fun i => i = nx + 23 ∨ i = nx + 1) h6 n6 (AHeap.put (AHeap.put h6 (nx + 23) (some ⟨[.int .i64 (kindOf o kinds), .str (objName o.name), .str (snpName o.other), .int .i64 (pickL o.off 1100), .int .i64 (pickL o.count 1100), .int .i64 0, .int .i64 0, .slice va (blockP o.data 400).length vc], 8, true⟩)) (nx + 1) (some ⟨[.int .i64 (kindOf o kinds), .str (objName o.name), .str (snpName o.other), .int .i64 (pickL o.off 1100), .int .i64 (pickL o.count 1100), .int .i64 0, .int .i64 0, .slice va (blockP o.data 400).length vc], 8, true⟩)) (n6 + 2) :=
      ⟨by omega, fun i hi hd => by rw [put_ne (by omega), put_ne (by omega)]⟩
    refine ⟨_, _, n6 + 2, rfl, ⟨by omega, fun i hi => ?_⟩, 0, 0, va, vc, rfl, g3.fr (g4.less fun i q => by unfold Old; omega) ff, g4.less fun i q => by unfold Old at *; omega⟩
    rw [put_ne (by omega), put_ne (by omega), g2.2 _ (by omega)]
    exact x5.2 i hi
  · rw [if_neg (by rw [beq_iff_eq]; exact hkd), ldr_all (n := 8) b5 rfl]
    simp only [mst_, mst5_]
    rw [st_all (n := 8) (cs := [(.int .i64 0), (.str (ByteArray.mk #[])), (.str (ByteArray.mk #[])), (.int .i64 0), (.int .i64 0), (.int .i64 0), (.int .i64 0), (.slice none 0 none)]) (by rw [k5 _ (by omega)]; exact b2) (by simp) (by simp) (by simp [allOne, AV.one]), ldr_all (n := 8) (put_same _ _ _) rfl]
    simp only [mst_, mst5_]
    have hcmd : cmdOf o kinds = ⟨kindOf o kinds, objName o.name, snpName o.other, pickL o.off 1100, pickL o.count 1100, []⟩ := by unfold cmdOf; rw [if_neg hkd]
    rw [hcmd]
    refine ⟨_, _, c5 + 5, rfl, x5.put (by omega) (by omega), 0, 0, none, none, rfl, ⟨rfl, fun j hj => by simp at hj⟩, Av.none⟩

theorem kinds_spec {f : Nat} (hf : 1 ≤ f) (Y : YldF) (h : AHeap) (nx : Nat) : ∃ h' nx', callP Try.prog keepT f Y 8 [] h nx = some (.slice (some (nx + 1, 0)) 22 (some 22), h', nx') ∧ Ext h nx h' nx' ∧ h' (nx + 1) = some ⟨ints .i64 [1, 2, 3, 4, 5, 6, 7, 8, 9, 10, 11, 12, 1, 2, 2, 2, 3, 8, 4, 4, 2, 3], 1, true⟩ ∧ nx + 1 < nx' := by
  obtain ⟨f, rfl⟩ : ∃ m, f = m + 1 := ⟨f - 1, by omega⟩
  rw [F8_eq]
  exact ⟨_, _, rfl, (Ext.refl h nx).put (by omega) (by omega), put_same _ _ _, by omega⟩
end Go.Proofs.Ytncmdbpoceilgaa.T
