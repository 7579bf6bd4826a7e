/- Snaps: kill. -/
import Derived.Test.YtaikceooeahfeaaS4
set_option linter.unusedVariables false
set_option linter.unusedSimpArgs false
namespace Go.Proofs.Ytaikceooeahfeaa.T
open Go Go.RowKit Go.Proofs

def killP (K : PK) (b : Int) : PK × Int × List Int :=
  if b < 0 then (K, 6, []) else match K.blocks[b.toNat]? with
  | none => (K, 6, [])
  | some (_, false) => (K, 6, [])
  | some (born, true) => match K.shots.getLast? with
    | none => ({ K with blocks := K.blocks.set b.toNat (born, false) }, 0, [b])
    | some s => if s.made < born then ({ K with blocks := K.blocks.set b.toNat (born, false) }, 0, [b]) else ({ K with blocks := K.blocks.set b.toNat (born, false), shots := K.shots.set (K.shots.length - 1) ⟨s.num, s.made, s.dead ++ [b]⟩ }, 0, [])

/-- What a turn of a keeper does. -/
def Did (kb : Nat) (h : AHeap) (nx : Nat) (K : KR) (g : PK × Int × List Int) (o : Option Res) : Prop :=
  ∃ h' nx' K' r, o = some (.agg r, h', nx') ∧ KOk h' nx' kb K' ∧ K'.p = g.1 ∧ Gon h' nx' (fun j => Kown kb K' j ∨ j < nx) r g.2 ∧ Frm (Kown kb K) h nx h' nx' ∧ ∀ i, Kown kb K' i → Kown kb K i ∨ nx ≤ i

theorem Gon.nil (h : AHeap) (nx : Nat) (A : Nat → Prop) (e : Int) : Gon h nx A [.int .i64 e, .slice none 0 none] (e, []) := ⟨_, rfl, none, none, rfl, ⟨rfl, fun j hj => by simp at hj⟩, Av.none⟩
theorem Gon.one {h : AHeap} {nx : Nat} {A : Nat → Prop} {q : Nat} {x : Int} (e : h q = some ⟨[.int .i64 x], 1, true⟩) (hq : q < nx) (hA : ¬ A q) : Gon h nx A [.int .i64 0, .slice (some (q, 0)) 1 (some 1)] (0, [x]) :=
  ⟨_, rfl, some (q, 0), some 1, rfl, ⟨rfl, fun j hj => ⟨(q, 0), _, rfl, hq, e, rfl, by simp, fun u hu => by simp [ints]⟩⟩, fun _ p e => by cases e; exact hA⟩

theorem Spr.cell {R : Type} {h : AHeap} {nx b : Nat} {a : Option (Nat × Nat)} {c : Option Nat} {es : Nat} {rows : List (List AV)} (w : Spr h nx a c es rows) (ha : a = some (b, 0)) {i f : Nat} {r : List AV} {v : AV} (hi : rows[i]? = some r) (hf : f < es) (hv : r[f]? = some v) (K : AV → Option R) : (ldA h b (0 + i * es + f)).bind K = K v := by
  obtain ⟨len, _, s⟩ := w
  rcases s with ⟨e, _⟩ | ⟨b', sp, e, b1, b2⟩
  · rw [ha] at e; cases e
  · rw [ha] at e; cases e
    refine ld_at b2 ?_ K
    rw [Nat.zero_add]
    have := flat_get len hi hf
    rw [List.getElem?_append_left, this, hv]
    rw [hv] at this
    exact (List.getElem?_eq_some_iff.1 this).1

theorem kill_spec {f : Nat} (hf : 3 ≤ f) (Y : YldF) {h : AHeap} {nx kb : Nat} {K : KR} (w : KOk h nx kb K) (x1 : Int) (hs : K.shots.length ≤ 1000) (hd : ∀ s ∈ K.shots, s.dead.length ≤ 1000) (hbl : K.blocks.length ≤ 1000) : Did kb h nx K (killP K.p x1) (callP Try.prog keepT f Y 12 [.ptr (some (kb, 0)), .int .i64 x1] h nx) := by
  obtain ⟨f, rfl⟩ : ∃ m, f = m + 1 := ⟨f - 1, by omega⟩
  have lk := w.lt
  rw [F12_eq]
  dsimp only
  obtain ⟨h1, hh1⟩ : ∃ h1, h1 = h.put nx (some ⟨[.int .i64 0, .slice none 0 none], 2, true⟩) := ⟨_, rfl⟩
  rw [← hh1]
  have e1 : h1 nx = some ⟨[.int .i64 0, .slice none 0 none], 2, true⟩ := by rw [hh1, put_same]
  have x01 : Ext h nx h1 (nx + 1) := ⟨by omega, fun i hi => by rw [hh1, put_ne (by omega)]⟩
  have w1 : KOk h1 (nx + 1) kb K := w.go (D := fun _ => False) (x01.fr _) fun _ _ q => q
  have wlt := w.own_lt
  obtain ⟨h2, r1, r2⟩ := no_spec (f := f) (by omega) Y 6 h1 (nx + 25)
  have k2 : h2 nx = some ⟨[.int .i64 0, .slice none 0 none], 2, true⟩ := by rw [r2.2 nx (by omega)]; exact e1
  have fin : Did kb h nx K (K.p, 6, []) (some (.agg [.int .i64 6, .slice none 0 none], h2.put nx (some ⟨[.int .i64 6, .slice none 0 none], 2, true⟩), nx + 25 + 4)) := by
    have x : Ext h nx (h2.put nx (some ⟨[.int .i64 6, .slice none 0 none], 2, true⟩)) (nx + 25 + 4) := ⟨by omega, fun i hi => by rw [put_ne (by omega), r2.2 i (by omega), x01.2 i hi]⟩
    exact ⟨_, _, K, _, rfl, w.go (D := fun _ => False) (x.fr _) fun _ _ q => q, rfl, Gon.nil _ _ _ _, x.fr _, fun i hi => .inl hi⟩
  unfold killP
  by_cases c0 : x1 < 0
  · rw [if_pos (decide_eq_true c0), if_pos c0, r1]
    simp only [mst_]
    rw [st_all k2 (n := 2) rfl rfl (by rfl), ldr_all (put_same _ _ _) (n := 2) rfl]
    simp only [mst_]
    exact fin
  rw [if_neg c0, if_neg (show ¬ decide (x1 < 0) = true by rw [decide_eq_true_eq]; exact c0)]
  obtain ⟨i, rfl⟩ : ∃ i : Nat, x1 = (i : Int) := ⟨x1.toNat, by omega⟩
  rw [Int.toNat_natCast]
  simp only [mst_]
  rw [ld_at w1.blk (v := .slice K.ba K.blocks.length K.bc) rfl]
  simp only [mst_]
  by_cases ci : i < K.blocks.length
  case neg =>
    have hnone : K.p.blocks[i]? = none := List.getElem?_eq_none (by show K.blocks.length ≤ i; omega)
    rw [if_pos (decide_eq_true (by omega)), hnone, r1]
    simp only [mst_]
    rw [st_all k2 (n := 2) rfl rfl (by rfl), ldr_all (put_same _ _ _) (n := 2) rfl]
    simp only [mst_]
    exact fin
  rw [if_neg (by rw [decide_eq_true_eq]; omega), ld_at w1.blk (v := .slice K.ba K.blocks.length K.bc) rfl]
  simp only [mst_]
  obtain ⟨born, lv, hi⟩ : ∃ born lv, K.blocks[i]? = some (born, lv) := ⟨_, _, List.getElem?_eq_getElem ci⟩
  have hrow : (K.blocks.map brow)[i]? = some (brow (born, lv)) := by rw [List.getElem?_map, hi]; rfl
  have hfl := fun (fld : Nat) (hf : fld < 2) => flat_get (rows := K.blocks.map brow) (es := 2) (i := i) (f := fld) w1.bs.1 hrow hf
  have bsl := w1.bs.sl
  rw [List.length_map] at bsl
  have rd := fun Kc => bsl.read (R := Res) (i := (i : Int)) (f := 1) (v := .bool lv) (by omega) (by omega) (by omega) (by rw [Int.toNat_natCast, hfl 1 (by omega)]; rfl) Kc
  simp only [Int.toNat_natCast] at rd
  rw [rd]
  simp only [mst_]
  have hp : K.p.blocks[i]? = some (born, lv) := hi
  rw [hp]
  cases lv with
  | false =>
    simp only
    rw [if_pos (by decide), r1]
    simp only [mst_]
    rw [st_all k2 (n := 2) rfl rfl (by rfl), ldr_all (put_same _ _ _) (n := 2) rfl]
    simp only [mst_]
    exact fin
  | true =>
  simp only
  rw [if_neg (by decide), F12_J1_eq]
  simp only [mst_]
  rw [ld_at w1.blk (v := .slice K.ba K.blocks.length K.bc) rfl]
  simp only [mst_]
  obtain ⟨bb, b5, eb, eb2, w5⟩ := w1.mark (R := Res) hi
  rw [eb]
  simp only [mst_]
  rw [if_pos ⟨by omega, by omega⟩, Int.toNat_natCast, eb2]
  obtain ⟨h6, hh6⟩ : ∃ h6, h6 = h1.put bb (some b5) := ⟨_, rfl⟩
  rw [← hh6] at w5 ⊢
  obtain ⟨K1, hK1⟩ : ∃ K1 : KR, K1 = { K with blocks := K.blocks.set i (born, false) } := ⟨_, rfl⟩
  have own1 : ∀ j, Kown kb K1 j ↔ Kown kb K j := fun j => by rw [hK1]; exact Iff.rfl
  have bbl : bb < nx := w.bs.lt bb ⟨0, by rw [eb]⟩
  have f6 : Frm (Kown kb K) h nx h6 (nx + 1) := ⟨by omega, fun j hj hk => by rw [hh6, put_ne (fun q => hk (.inr (.inl ⟨0, by rw [eb, q]⟩)))]; exact x01.2 j hj⟩
  have e6 : h6 nx = some ⟨[.int .i64 0, .slice none 0 none], 2, true⟩ := by rw [hh6, put_ne (by omega)]; exact e1
  rw [← hK1] at w5
  have q1 : K1.p.shots = K.p.shots := by rw [hK1]; rfl
  have q2 : K1.shots = K.shots := by rw [hK1]
  have q3 : K1.p = { K.p with blocks := K.p.blocks.set i (born, false) } := by rw [hK1]; rfl
  rw [ld_at w5.blk (v := .slice K1.sa K1.shots.length K1.sc) rfl]
  simp only [mst_]
  -- it is gone at once
  have gone : ∀ (o : Option Res), o = some (.agg [.int .i64 0, .slice (some (nx + 23 + 37, 0)) 1 (some 1)], ((h6.put (nx + 23 + 37) (some ⟨[.int .i64 (i : Int)], 1, true⟩)).put nx (some ⟨[.int .i64 0, .slice (some (nx + 23 + 37, 0)) 1 (some 1)], 2, true⟩)), nx + 23 + 40) →
      Did kb h nx K ({ K.p with blocks := K.p.blocks.set i (born, false) }, 0, [(i : Int)]) o := by
    rintro o rfl
    have f7 : Frm (Kown kb K) h nx ((h6.put (nx + 23 + 37) (some ⟨[.int .i64 (i : Int)], 1, true⟩)).put nx (some ⟨[.int .i64 0, .slice (some (nx + 23 + 37, 0)) 1 (some 1)], 2, true⟩)) (nx + 23 + 40) :=
      (f6.put (.inr (by omega)) (Nat.le_refl _)).put (.inr (by omega)) (by omega)
    have x67 : Frm (fun j => nx ≤ j) h6 (nx + 1) ((h6.put (nx + 23 + 37) (some ⟨[.int .i64 (i : Int)], 1, true⟩)).put nx (some ⟨[.int .i64 0, .slice (some (nx + 23 + 37, 0)) 1 (some 1)], 2, true⟩)) (nx + 23 + 40) :=
      ⟨by omega, fun j hj hd => by rw [put_ne (by omega), put_ne (by omega)]⟩
    refine ⟨_, _, K1, _, rfl, w5.go x67 (fun j hj => by have := wlt j ((own1 j).1 hj); omega), q3, Gon.one (by rw [put_ne (by omega), put_same]) (by omega) (fun hk => by rcases hk with hk | hk; exact (by have := wlt _ ((own1 _).1 hk); omega); omega), f7, fun j hj => .inl ((own1 j).1 hj)⟩
  by_cases cn : K1.shots.length = 0
  · have hl : K.p.shots.getLast? = none := by
      have : K.shots = [] := by rw [← q2]; exact List.eq_nil_of_length_eq_zero cn
      show (K.shots.map SR.p).getLast? = none
      rw [this]; rfl
    rw [if_pos (by rw [cn]; rfl), hl]
    simp only
    have k7 : (h6.put (nx + 23 + 37) (some ⟨[.int .i64 (i : Int)], 1, true⟩)) nx = some ⟨[.int .i64 0, .slice none 0 none], 2, true⟩ := by rw [put_ne (by omega)]; exact e6
    rw [st_all k7 (n := 2) rfl rfl (by rfl), ldr_all (put_same _ _ _) (n := 2) rfl]
    simp only [mst_]
    exact gone _ rfl
  · obtain ⟨n, hn⟩ : ∃ n, K1.shots.length = n + 1 := ⟨K1.shots.length - 1, by omega⟩
    have hn' : K.shots.length = n + 1 := by rw [← q2]; exact hn
    obtain ⟨S, hS⟩ : ∃ S, K1.shots[n]? = some S := ⟨_, List.getElem?_eq_getElem (by omega)⟩
    have hl : K.p.shots.getLast? = some S.p := by
      show (K.shots.map SR.p).getLast? = some S.p
      rw [List.getLast?_eq_getElem?, List.length_map, hn', Nat.add_sub_cancel, List.getElem?_map, ← q2, hS]; rfl
    rw [if_neg (by simpa using cn), hl]
    simp only
    rw [ld_at w5.blk (v := .slice K1.sa K1.shots.length K1.sc) rfl]
    simp only [mst_]
    have hwr : wrapA .i64 (((K1.shots.length : Nat) : Int) - 1) = ((n : Nat) : Int) := by rw [hn, wpred (by omega) (by omega)]; rfl
    rw [hwr]
    have srow : (K1.shots.map SR.row)[n]? = some S.row := by rw [List.getElem?_map, hS]; rfl
    have sfl := fun (fld : Nat) (hf : fld < 3) => flat_get (rows := K1.shots.map SR.row) (es := 3) (i := n) (f := fld) w5.ss.1 srow hf
    have ssl := w5.ss.sl
    rw [List.length_map] at ssl
    rw [ssl.read (i := (n : Int)) (f := 1) (v := .int .i64 S.made) (by omega) (by omega) (by omega) (by rw [Int.toNat_natCast, sfl 1 (by omega)]; rfl)]
    simp only [mst_]
    rw [ld_at w5.blk (v := .slice K1.ba K1.blocks.length K1.bc) rfl]
    simp only [mst_]
    have hi1 : K1.blocks[i]? = some (born, false) := by rw [hK1]; simp [ci]
    have brw : (K1.blocks.map brow)[i]? = some (brow (born, false)) := by rw [List.getElem?_map, hi1]; rfl
    have bfl := flat_get (rows := K1.blocks.map brow) (es := 2) (i := i) (f := 0) w5.bs.1 brw (by omega)
    have bsl1 := w5.bs.sl
    rw [List.length_map] at bsl1
    have cl1 : i < K1.blocks.length := (List.getElem?_eq_some_iff.1 hi1).1
    have rd2 := fun Kc => bsl1.read0 (R := Res) (i := (i : Int)) (v := .int .i64 born) (by omega) (by omega) (by omega) (by rw [Int.toNat_natCast]; rw [Nat.add_zero] at bfl; rw [bfl]; rfl) Kc
    simp only [Int.toNat_natCast] at rd2
    rw [rd2]
    simp only [mst_]
    by_cases cm : S.made < born
    · rw [if_pos (decide_eq_true cm), if_pos (show S.p.made < born from cm)]
      have k7 : (h6.put (nx + 23 + 37) (some ⟨[.int .i64 (i : Int)], 1, true⟩)) nx = some ⟨[.int .i64 0, .slice none 0 none], 2, true⟩ := by rw [put_ne (by omega)]; exact e6
      rw [st_all k7 (n := 2) rfl rfl (by rfl), ldr_all (put_same _ _ _) (n := 2) rfl]
      simp only [mst_]
      exact gone _ rfl
    · rw [if_neg (show ¬ S.p.made < born from cm), if_neg (show ¬ decide (S.made < born) = true by rw [decide_eq_true_eq]; exact cm), F12_J2_eq]
      simp only [mst_]
      rw [ld_at w5.blk (v := .slice K1.sa K1.shots.length K1.sc) rfl]
      simp only [mst_]
      rw [hwr]
      have w5' : KOk h6 (nx + 23 + 36) kb K1 := w5.go (D := fun _ => False) (Frm.le (Frm.refl _ _ _) (by omega)) fun _ _ q => q
      obtain ⟨e9, sb, b11, g1, g2, g3, g4, g5, g6, _, g8⟩ := w5'.bury (R := Res) hS (i : Int) (id := nx + 23 + 36 + 14) (id2 := nx + 23 + 36 + 15) (by omega) (by omega) (hd S (by rw [← q2]; exact List.mem_of_getElem? hS))
      rw [g1]
      simp only [mst_]
      rw [if_pos ⟨by omega, by omega⟩, Int.toNat_natCast, w5.ss.cell g1 (i := n) (f := 2) srow (by omega) (v := .slice S.a S.dead.length S.c) rfl]
      simp only [mst_]
      rw [g2]
      simp only [mst_]
      rw [g3]
      simp only [mst_]
      rw [g4]
      generalize (((h6.put (nx + 23 + 36 + 14) (some ⟨[.int .i64 (i : Int)], 1, true⟩)).puts e9.sets).put sb (some b11)) = h12 at *
      have k12 : h12 nx = some ⟨[.int .i64 0, .slice none 0 none], 2, true⟩ := by rw [g6.2 nx (by omega) (fun q => by have := wlt nx ((own1 nx).1 q); omega)]; exact e6
      rw [st_all k12 (n := 2) rfl rfl (by rfl), ldr_all (put_same _ _ _) (n := 2) rfl]
      simp only [mst_]
      obtain ⟨K2, hK2⟩ : ∃ K2 : KR, K2 = { K1 with shots := K1.shots.set n ⟨S.num, S.made, S.dead ++ [(i : Int)], e9.a, e9.c⟩ } := ⟨_, rfl⟩
      rw [← hK2] at g5
      have own2 : ∀ j, Kown kb K2 j → Kown kb K j ∨ nx < j := by
        intro j hj
        rw [hK2] at hj
        rcases hj with q | q | q | ⟨s, hs', q⟩
        · exact .inl (.inl q)
        · exact .inl ((own1 j).1 (.inr (.inl q)))
        · exact .inl ((own1 j).1 (.inr (.inr (.inl q))))
        · rcases List.mem_or_eq_of_mem_set hs' with hs' | rfl
          · exact .inl ((own1 j).1 (.inr (.inr (.inr ⟨s, hs', q⟩))))
          · rcases g8 j q with q | q
            · exact .inl ((own1 j).1 (.inr (.inr (.inr ⟨S, List.mem_of_getElem? hS, q⟩))))
            · exact .inr (by omega)
      have x13 : Frm (fun j => j = nx) h12 (nx + 23 + 36 + 15 + 1) (h12.put nx (some ⟨[.int .i64 0, .slice none 0 none], 2, true⟩)) (nx + 23 + 36 + 21) := ⟨by omega, fun j _ hj => put_ne hj⟩
      refine ⟨_, _, K2, _, rfl, g5.go x13 (fun j hj q => by rcases own2 j hj with z | z; exact (by have := wlt j z; omega); omega), ?_, Gon.nil _ _ _ _, ?_, fun j hj => (own2 j hj).imp id (by omega)⟩
      · rw [hK2]
        show (⟨K1.now, K1.kept, K1.blocks, (K1.shots.set n ⟨S.num, S.made, S.dead ++ [(i : Int)], e9.a, e9.c⟩).map SR.p⟩ : PK) = _
        have l1 : K.p.shots.length = n + 1 := by show (K.shots.map SR.p).length = n + 1; rw [List.length_map]; exact hn'
        rw [List.map_set, l1, Nat.add_sub_cancel, q2, hK1]
        rfl
      · have f12 : Frm (Kown kb K) h nx h12 (nx + 23 + 36 + 15 + 1) := f6.trans (h' := h12) (nx' := nx + 23 + 36 + 15 + 1) ⟨by omega, fun j hj hk => g6.2 j (by omega) hk⟩ fun j _ q => (own1 j).1 q
        exact f12.put (.inr (Nat.le_refl _)) (by omega)

end Go.Proofs.Ytaikceooeahfeaa.T
