import Derived.Test.YtncmdbpoceilgaaPB
import Derived.Test.YtncmdbpoceilgaaTI
set_option linter.unusedVariables false
set_option linter.unusedSimpArgs false
/- Pools: Commands. -/
namespace Go.Proofs.Ytncmdbpoceilgaa.T
open Go Go.RowKit Go.Proofs
set_option maxRecDepth 10000

theorem OrdR.go {h h' : AHeap} {nx nx' : Nat} {A A' D : Nat → Prop} {c : Ord} {r : List AV} (b : OrdR h nx A c r) (f : Frm D h nx h' nx') (d : ∀ i, i < nx → D i → A i) (g : ∀ i, i < nx → A' i → A i) : OrdR h' nx' A' c r := by
  obtain ⟨da, dc, e, s, v⟩ := b
  exact ⟨da, dc, e, s.fr (v.go s d) f, v.go s g⟩

/-- One row more, behind a call: rows told by CmdR, the call's blocks are younger. -/
theorem push_cmd {h h2 : AHeap} {nx n2 m id id2 : Nat} {a : Option (Nat × Nat)} {outs : List Cmd} (w : OwnRows (CmdR h nx (ownOf a)) h nx a 8 outs) (x : Ext h nx h2 n2) (ac : Option Nat) {c : Cmd} {row : List AV} (cr : CmdR h2 n2 (fun j => ownOf a j ∨ j = id ∨ j = id2) c row)
    (h1 : nx ≤ id) (h12 : id < id2) (h3 : id2 < n2) (hn : n2 ≤ m) (hl : outs.length ≤ 1000) :
    ∃ e, srcS (h2.put id (some ⟨row, 8, true⟩)) (some (id, 0)) 1 8 = some (1, row, [id]) ∧ appD (h2.put id (some ⟨row, 8, true⟩)) a outs.length ac 8 96 id2 (1, row, [id]) = some e ∧ e.n = (outs ++ [c]).length ∧ (∀ j, ownOf e.a j → j = id2) ∧
      OwnRows (CmdR ((h2.put id (some ⟨row, 8, true⟩)).puts e.sets) m (ownOf e.a)) ((h2.put id (some ⟨row, 8, true⟩)).puts e.sets) m e.a 8 (outs ++ [c]) ∧ Frm (fun j => ownOf a j ∨ j = id ∨ j = id2) h2 n2 ((h2.put id (some ⟨row, 8, true⟩)).puts e.sets) m := by
  have w1 : OwnRows (CmdR h2 n2 fun j => ownOf a j ∨ j = id ∨ j = id2) h2 id a 8 outs := by
    have f3 : Frm (fun _ => False) h nx h2 id := ⟨by omega, fun i hi _ => x.2 i hi⟩
    refine w.go f3 (fun _ _ q => q) fun t r q => q.go (x.fr fun _ => False) (fun _ _ q => q.elim) fun j hj hb => ?_
    rcases hb with hb | hb | hb
    · exact hb
    · omega
    · omega
  obtain ⟨e, a1, a2, a3, a4, a5, a6, a7, a8⟩ := w1.push ac (bytes := 96) (id := id) (id2 := id2) (x := c) (r := row) cr.len cr (growOk_of (by omega) (by omega)) (Nat.le_refl _) h12
  have hown : ∀ j, ownOf e.a j → j = id2 := fun j ⟨oo, hj⟩ => by rw [a3] at hj; exact (Prod.mk.inj (Option.some.inj hj)).1.symm
  have fX : Frm (fun j => ownOf a j ∨ j = id ∨ j = id2) h2 n2 ((h2.put id (some ⟨row, 8, true⟩)).puts e.sets) m := ⟨hn, fun j hj hb => by
    rw [puts_get _ _ (fun hm => hb (by rcases a8 j hm with h | h; exact .inl h; exact .inr (.inr h))), put_ne (fun h => hb (.inr (.inl h)))]⟩
  refine ⟨e, a1, a2, by rw [a4]; simp, hown, ?_, fX⟩
  have f5 : Frm (fun _ => False) ((h2.put id (some ⟨row, 8, true⟩)).puts e.sets) (id2 + 1) ((h2.put id (some ⟨row, 8, true⟩)).puts e.sets) m := ⟨by omega, fun _ _ _ => rfl⟩
  exact a5.go f5 (fun _ _ q => q) fun t r q => q.go fX (fun _ _ hj => hj) fun j _ hj => .inr (.inr (hown j hj))

def cmdsOf (os : List Ord) (M : Nat) (kinds : List Int) : List Cmd := (os.take M).map fun o => cmdOf o kinds
theorem cmdsOf_len (os : List Ord) (M : Nat) (kinds : List Int) : (cmdsOf os M kinds).length ≤ M := by simp [cmdsOf]; omega
theorem objName_size (n : Int) : (objName n).size ≤ 2 := by
  obtain ⟨b1, b2⟩ := pickL_bounds n 5 (by decide)
  unfold objName
  obtain ⟨k, hk⟩ : ∃ k, k = (pickL n 5).toNat := ⟨_, rfl⟩
  rw [← hk]
  have : k < 5 := by omega
  match k, this with
  | 0, _ => decide
  | 1, _ => decide
  | 2, _ => decide
  | 3, _ => decide
  | 4, _ => decide
theorem snpName_size (n : Int) : (snpName n).size ≤ 2 := by
  obtain ⟨b1, b2⟩ := pickL_bounds n 4 (by decide)
  unfold snpName
  obtain ⟨k, hk⟩ : ∃ k, k = (pickL n 4).toNat := ⟨_, rfl⟩
  rw [← hk]
  have : k < 4 := by omega
  match k, this with
  | 0, _ => decide
  | 1, _ => decide
  | 2, _ => decide
  | 3, _ => decide
theorem cmdsOf_small (os : List Ord) (M : Nat) (kinds : List Int) : Small (cmdsOf os M kinds) := fun c hc => by
  obtain ⟨o, _, rfl⟩ := List.mem_map.1 hc
  have h1 := objName_size o.name
  have h2 := snpName_size o.other
  exact ⟨by show (objName o.name).size ≤ 1000; omega, by show (snpName o.other).size ≤ 1000; omega⟩
end Go.Proofs.Ytncmdbpoceilgaa.T

/- Pools: what is refused changes nothing. -/
namespace Go.Proofs.Ytncmdbpoceilgaa.T
open Go Go.RowKit Go.Proofs
set_option maxRecDepth 10000

/-- What is told is not long. -/
theorem fetch_small {x : List Int} (h : x.length ≤ 1024) (c : Cmd) : (fetchP x c).data.length ≤ 2000 ∧ (fetchP x c).names.length ≤ 2000 := by
  unfold fetchP
  split
  · simp [noT]
  split
  · simp [noT]
  · simp; omega
theorem step_small {s : Pl} (w : s.Ok) (c : Cmd) : (stepP s c).1.data.length ≤ 2000 ∧ (stepP s c).1.names.length ≤ 2000 := by
  have hno : ∀ e, (noT e).data.length ≤ 2000 ∧ (noT e).names.length ≤ 2000 := fun e => by simp [noT]
  unfold stepP
  split
  · dsimp only
    split <;> exact hno _
  split
  · have := w.olen
    refine ⟨by simp, ?_⟩
    show (sortS _).length ≤ 2000
    rw [sortS_len]; simp; omega
  split
  · have := w.slen
    refine ⟨by simp, ?_⟩
    show (sortS _).length ≤ 2000
    rw [sortS_len]; simp; omega
  split
  · unfold snapP
    split
    · dsimp only
      split <;> exact hno _
    · cases hg : getO c.other s.snaps with
      | none => exact hno _
      | some l =>
        dsimp only
        split
        · exact hno _
        split
        · exact hno _
        cases hx : getO c.name l with
        | none => exact hno _
        | some x => exact fetch_small ((w.snaps _ (getO_mem hg)).2.1 _ (getO_mem hx)).2 c
  split
  · cases hg : getO c.name s.obj with
    | none => exact hno _
    | some x =>
      dsimp only
      unfold objectP
      split
      · exact fetch_small (w.obj _ (getO_mem hg)).2 c
      split
      · exact hno _
      split
      · split
        · exact hno _
        split
        · exact hno _
        split
        · exact hno _
        split
        · exact hno _
        · simp
      · split
        · exact hno _
        split
        · exact hno _
        · simp
  split <;> exact hno _
end Go.Proofs.Ytncmdbpoceilgaa.T

/- Pools: PoolRefused. -/
namespace Go.Proofs.Ytncmdbpoceilgaa.T
open Go Go.RowKit Go.Proofs
set_option maxRecDepth 10000

/-! ### arguments -/
def OrdSh : Sh := .st [.int .i64, .int .i64, .int .i64, .int .i64, .int .i64, .sl (.int .u8)]
theorem ord_of {h : AHeap} {nx : Nat} {v : List AV} (t : Ty h nx OrdSh v) : ∃ o, OrdR h nx (fun _ => False) o v := by
  unfold OrdSh at t
  rw [Ty] at t
  obtain ⟨parts, rfl, t⟩ := t
  rw [TyL] at t; obtain ⟨p0, r0, rfl, t0, t⟩ := t
  rw [TyL] at t; obtain ⟨p1, r1, rfl, t1, t⟩ := t
  rw [TyL] at t; obtain ⟨p2, r2, rfl, t2, t⟩ := t
  rw [TyL] at t; obtain ⟨p3, r3, rfl, t3, t⟩ := t
  rw [TyL] at t; obtain ⟨p4, r4, rfl, t4, t⟩ := t
  rw [TyL] at t; obtain ⟨p5, r5, rfl, t5, t⟩ := t
  rw [TyL] at t; subst t
  rw [Ty] at t0 t1 t2 t3 t4
  obtain ⟨n0, rfl, _⟩ := t0
  obtain ⟨n1, rfl, _⟩ := t1
  obtain ⟨n2, rfl, _⟩ := t2
  obtain ⟨n3, rfl, _⟩ := t3
  obtain ⟨n4, rfl, _⟩ := t4
  obtain ⟨a, l, rfl, _, s⟩ := t5.ints
  exact ⟨⟨n0, n1, n2, n3, n4, l⟩, a, none, rfl, s, fun _ _ _ q => q⟩
theorem ords_of {h : AHeap} {nx : Nat} : ∀ {cells : List (List AV)} (_ : ∀ c ∈ cells, Ty h nx OrdSh c), ∃ os, All2 (OrdR h nx fun _ => False) os cells
  | [], _ => ⟨[], rfl⟩
  | c :: cells, t => by
    obtain ⟨o, ho⟩ := ord_of (t c List.mem_cons_self)
    obtain ⟨os, hos⟩ := ords_of (fun c hc => t c (List.mem_cons_of_mem _ hc))
    exact ⟨o :: os, c, cells, rfl, ho, hos⟩
theorem ord_rows {h : AHeap} {nx : Nat} {a : Option (Nat × Nat)} {cells : List (List AV)} (t : ∀ c ∈ cells, Ty h nx OrdSh c) (s : Sl h nx a cells.length OrdSh.n cells.flatten) : ∃ os : List Ord, os.length = cells.length ∧ Rows (OrdR h nx fun _ => False) h nx (fun _ => False) a 6 os := by
  obtain ⟨os, q⟩ := ords_of t
  have hl := q.len
  refine ⟨os, hl.symm, cells, q, fun r hr => (t r hr).length, ?_, fun _ _ _ q => q⟩
  rw [← hl]; exact s
def kindsL : List Int := [1, 2, 3, 4, 5, 6, 7, 8, 9, 10, 11, 12, 1, 2, 2, 2, 3, 8, 4, 4, 2, 3]

end Go.Proofs.Ytncmdbpoceilgaa.T
