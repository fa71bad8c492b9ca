/- The draw of a fraction and an intermediate one. -/
import Derived.Test.YtnjilpldfidbjaaDrwG
namespace Go.Proofs.Ytnjilpldfidbjaa
open Go.RowKit

theorem inl_pos {p : Int} {b : Nat} (ho : okF p b = true) (ht : tl (terms p b) = false) : 1 ≤ (inl p b (terms p b).length).length := by
  obtain ⟨h0, _⟩ := term0_bd ho
  obtain ⟨k, hk⟩ : ∃ k, (terms p b).length = k + 1 := ⟨(terms p b).length - 1, by omega⟩
  rw [hk]
  exact (inl_len ht k (by omega)).1

set_option maxRecDepth 100000 in
set_option maxHeartbeats 4000000 in
theorem drawIsIntermediate_any (A : Option Addr) (n c : Nat) (xs : List Int) (w : World) (h : Rd w w.heap.size 1 A n (u8l xs)) (hn : n ≤ 9223372036854775807) (hx : ∀ x ∈ xs, 0 ≤ x ∧ x ≤ 255) :
    Calls Try.prog 23 #[.slice A n c] w fun e w' => ∃ p q r s : Int, e = .returned (.tuple #[.agg #[.int .i64 p, .int .i64 q], .agg #[.int .i64 r, .int .i64 s]]) ∧ Below w.heap.size w w' := by
  go_enter Try.func23, Try.ntmps23
  have b0 : Below w.heap.size w ((w.alloc (.cells #[.int .i64 0, .int .i64 0] 25)).alloc (.cells #[.int .i64 0, .int .i64 0] 25)) := by go_grown
  have hR0 := (Blk.new w 25 #[.int .i64 0, .int .i64 0]).alloc (.cells #[.int .i64 0, .int .i64 0] 25)
  have hQ0 : Blk ((w.alloc (.cells #[.int .i64 0, .int .i64 0] 25)).alloc (.cells #[.int .i64 0, .int .i64 0] 25)) (w.heap.size + 1) 25 #[.int .i64 0, .int .i64 0] := Blk.newAt (by simp)
  have h1 := (h.below b0).more b0.size
  go_wp2_with fail
  refine (l00From_any A n c xs _ h1 hn hx).mono ?_
  rintro e w1 ⟨g, rfl, hs1, hb1⟩
  have hR1 : Blk w1 w.heap.size 25 #[.int .i64 0, .int .i64 0] := (hb1.block w.heap.size (by simp; omega)).trans hR0
  have hQ1 : Blk w1 (w.heap.size + 1) 25 #[.int .i64 0, .int .i64 0] := (hb1.block (w.heap.size + 1) (by simp)).trans hQ0
  have hgg : w.heap.size + 2 ≤ g := by have := hs1.base_; simp at this; omega
  have B1 := bstep b0 hb1 b0.size
  have hsB : ∃ B, Src w1 g B 4611686018427387904 ∧ w.heap.size + 2 ≤ B := ⟨_, hs1, by simp⟩
  obtain ⟨B, hs1, hBB⟩ := hsB
  clear h1 hR0 hQ0 hb1 b0
  go_wp2_with fail
  refine (l19Big_any g B 400 _ (hs1.less (by omega))).mono ?_
  rintro e w2 ⟨p, q, rfl, hs2, hg2⟩
  have hR2 := (hR1.grown hg2 (fun e => by injection e; omega)).alloc (.cells #[.int .i64 p, .int .i64 q] 25)
  have hQ2 := (hQ1.grown hg2 (fun e => by injection e; omega)).alloc (.cells #[.int .i64 p, .int .i64 q] 25)
  have hT2 := Blk.new w2 25 #[.int .i64 p, .int .i64 q]
  have B2 : Below w.heap.size w w2 := B1.grown hg2 B1.size (fun k hk => by injection hk; omega)
  have B2' : Below w.heap.size w (w2.alloc (.cells #[.int .i64 p, .int .i64 q] 25)) := B2.alloc B2.size _
  have hs2' : Src (w2.alloc (.cells #[.int .i64 p, .int .i64 q] 25)) g B 400 := hs2.alloc _
  have hne : w2.heap.size ≠ g := by have := hs2.lt; omega
  have hne2 : w.heap.size + 1 < w2.heap.size := by have := hs2.lt; omega
  have hcode := l19Code_any p q
  clear hR1 hQ1 hs1 hg2 hs2 B2 B1
  go_wp2_with fail
  refine (hcode _).mono ?_
  rintro e w3 ⟨rfl, b3⟩
  have hR3 : Blk w3 w.heap.size 25 #[.int .i64 0, .int .i64 0] := (b3.block _ (by simp; omega)).trans hR2
  have hQ3 : Blk w3 (w.heap.size + 1) 25 #[.int .i64 0, .int .i64 0] := (b3.block _ (by simp; omega)).trans hQ2
  have hT3 : Blk w3 w2.heap.size 25 #[.int .i64 p, .int .i64 q] := (b3.block _ (by simp)).trans hT2
  have hs3 := hs2'.below_ b3
  have B3 := bstep B2' b3 B2'.size
  generalize w2.heap.size = bt at *
  clear hR2 hQ2 hT2 hs2' B2' b3 hcode
  by_cases hi : itc p q = 0
  · obtain ⟨ho, ht⟩ := itc_ok hi
    obtain ⟨b, rfl⟩ : ∃ b : Nat, q = b := ⟨q.toNat, by have := (okF_iff.1 ho).1; omega⟩
    rw [Int.toNat_natCast] at ht
    have hpos := inl_pos ho ht
    have hAll := fun w => l19All_any p b w ho ht
    generalize inl p b (terms p b).length = L at *
    have hdc : (itc p b == 0) = true := by rw [hi]; rfl
    clear hi ho ht
    go_wp2_with fail
    refine (one_any g B 390 _ _ (hs3.less (by omega))).mono ?_
    rintro e w4 ⟨r, rfl, hs4, hg4⟩
    have hR4 := hR3.grown hg4 (fun e => by injection e; omega)
    have hQ4 := hQ3.grown hg4 (fun e => by injection e; omega)
    have hT4 := hT3.grown hg4 (fun e => by injection e; omega)
    have B4 := B3.grown hg4 B3.size (fun k hk => by injection hk; omega)
    clear hR3 hQ3 hT3 hs3 hg4 B3
    cases r
    · obtain ⟨m0, _, _, _⟩ := hT4.after (Below.refl _ _) hT4.lt
      have x6 := m0 0
      have x7 := m0 1
      clear m0
      go_wp2_with fail
      refine (hAll _).mono ?_
      rintro e w5 ⟨v, rfl, hl5, b5⟩
      have hR5 : Blk w5 w.heap.size 25 #[.int .i64 0, .int .i64 0] := (b5.block _ hR4.lt).trans hR4
      have hQ5 : Blk w5 (w.heap.size + 1) 25 #[.int .i64 0, .int .i64 0] := (b5.block _ hQ4.lt).trans hQ4
      have hT5 : Blk w5 bt 25 #[.int .i64 p, .int .i64 b] := (b5.block _ hT4.lt).trans hT4
      have hs5 := hs4.below_ b5
      have B5 := bstep B4 b5 B4.size
      obtain ⟨A5, n5, c5, rfl, hn5, hnb, hr5⟩ := hl5
      obtain ⟨g5, rfl, hg5, hrow⟩ : ∃ g5, A5 = some ⟨g5, 0, none⟩ ∧ w4.heap.size ≤ g5 ∧ Row w5 g5 25 2 n5 c5 (cs2 L) := by
        rcases hr5 with ⟨_, h0⟩ | h
        · omega
        · exact h
      have hng : g5 ≠ g := by have := hs4.lt; omega
      have hnr : g5 ≠ w.heap.size ∧ g5 ≠ w.heap.size + 1 := ⟨by have := hR4.lt; omega, by have := hQ4.lt; omega⟩
      have HN := hide hn5
      have hn1 : 1 ≤ n5 := by omega
      have hsd : Src w5.drew g B (100 + 2) := hs5.less (by omega)
      obtain ⟨HR, HQ, HT⟩ : Hid (Blk w5 w.heap.size 25 #[.int .i64 0, .int .i64 0]) ∧ Hid (Blk w5 (w.heap.size + 1) 25 #[.int .i64 0, .int .i64 0]) ∧ Hid (Blk w5 bt 25 #[.int .i64 p, .int .i64 b]) := ⟨hR5, hQ5, hT5⟩
      have HROW := hide hrow
      obtain ⟨m1, _, _, _⟩ := HT.out.after (Below.refl _ _) HT.out.lt
      have x0 := m1 0
      have x1 := m1 1
      have hcell : Hid (∀ w' : World, w5.grownBy w' (some g) → ∀ j : Nat, j < n5 → ∃ r s : Int, w'.cell? ⟨g5, j * 2, none⟩ = some (.int .i64 r) ∧ w'.cell? ⟨g5, j * 2 + 1, none⟩ = some (.int .i64 s)) := by
        intro w' hg j hj
        have hr := hrow.grown hg (fun e => by injection e; omega)
        obtain ⟨e1, e2⟩ := cs2_at (fs := L) (i := j) (by omega)
        exact ⟨_, _, hr.cell e1, hr.cell e2⟩
      clear m1 hR5 hQ5 hT5 hs5 hR4 hQ4 hT4 hs4 B4 b5 hn5 hr5 hrow hAll
      go_wp2_with fail
      go_region_with (first
        | (go_at_call 54; go_loud (refine (pick_any g B 100 _ _ hsd).mono ?_; rintro e w6 ⟨u, rfl, u0, u1, hs6, hg6'⟩; have hg6 : w5.grownBy w6 (some g) := gtrans (gdrewN w5 1 _) hg6'; obtain ⟨j, rfl⟩ := Int.eq_ofNat_of_zero_le u0; have hj : j < n5 := (by omega); have hjz : (j : Int) < (n5 : Int) := (by omega); obtain ⟨r, s, y0, y1⟩ := hcell.out w6 hg6 j hj; have hR6 := HR.out.grown hg6 (fun e => by injection e; omega); have hQ6 := HQ.out.grown hg6 (fun e => by injection e; omega); have hT6 := HT.out.grown hg6 (fun e => by injection e; omega); obtain ⟨f1, _, _, _⟩ := hT6.after (Below.refl _ _) hT6.lt; obtain ⟨k1, _, _, HR6⟩ := hR6.after (Below.refl _ _) hR6.lt; obtain ⟨l1, _, _, HQ6⟩ := hQ6.after (Below.refl _ _) hQ6.lt; have x2 := f1 0; have x3 := f1 1; clear f1 hR6 hQ6 hT6 hg6')))
      all_goals
        have B6 := B5.grown hg6 B5.size (fun k hk => by injection hk; omega)
        go_wp2_with fail
        have z3 := (((HR6.out.set2 (x := .int .i64 p) (y := .int .i64 b)).far (p := ⟨w.heap.size + 1, 0, none⟩) (by show w.heap.size ≠ w.heap.size + 1; omega) (.int .i64 r)).far (p := ⟨w.heap.size + 1, 1, none⟩) (by show w.heap.size ≠ w.heap.size + 1; omega) (.int .i64 s))
        have z5 := ((HQ6.out.far (p := ⟨w.heap.size, 0, none⟩) (by show w.heap.size + 1 ≠ w.heap.size; omega) (.int .i64 p)).far (p := ⟨w.heap.size, 1, none⟩) (by show w.heap.size + 1 ≠ w.heap.size; omega) (.int .i64 b)).set2 (x := .int .i64 r) (y := .int .i64 s)
        obtain ⟨z4, _, _, _⟩ := z3.after (Below.refl _ _) z3.lt
        obtain ⟨z6, _, _, _⟩ := z5.after (Below.refl _ _) z5.lt
        exact bodyPost_ret (v := .tuple #[.agg #[.int .i64 p, .int .i64 b], .agg #[.int .i64 r, .int .i64 s]]) (by simp [results, Try.results23, go_sem, z4, z6]) rfl ⟨_, _, _, _, rfl, (((B6.setCell (Nat.le_refl _) _).setCell (Nat.le_refl _) _).setCell (Nat.le_succ _) _).setCell (Nat.le_succ _) _⟩
    · clear hAll
      have hsd : Src w4.drew g B (100 + 60) := hs4.less (by omega)
      obtain ⟨HR, HQ, HT⟩ : Hid (Blk w4 w.heap.size 25 #[.int .i64 0, .int .i64 0]) ∧ Hid (Blk w4 (w.heap.size + 1) 25 #[.int .i64 0, .int .i64 0]) ∧ Hid (Blk w4 bt 25 #[.int .i64 p, .int .i64 b]) := ⟨hR4, hQ4, hT4⟩
      obtain ⟨m1, _, _, _⟩ := HT.out.after (Below.refl _ _) HT.out.lt
      have x0 := m1 0
      have x1 := m1 1
      clear m1 hR4 hQ4 hT4 hs4
      go_wp2_with fail
      go_region_with (first
        | (go_at_call 55; refine (l02Bent_any g B 100 _ hsd).mono ?_; rintro e w6 ⟨r, s, rfl, hs6, hg6'⟩; have hg6 : w4.grownBy w6 (some g) := gtrans (gdrewN w4 1 _) hg6'; have hR6 := HR.out.grown hg6 (fun e => by injection e; omega); have hQ6 := HQ.out.grown hg6 (fun e => by injection e; omega); have hT6 := HT.out.grown hg6 (fun e => by injection e; omega); obtain ⟨f1, _, _, _⟩ := hT6.after (Below.refl _ _) hT6.lt; obtain ⟨k1, _, _, HR6⟩ := hR6.after (Below.refl _ _) hR6.lt; obtain ⟨l1, _, _, HQ6⟩ := hQ6.after (Below.refl _ _) hQ6.lt; have x2 := f1 0; have x3 := f1 1; clear f1 hR6 hQ6 hT6 hg6'))
      all_goals
        have B6 := B4.grown hg6 B4.size (fun k hk => by injection hk; omega)
        go_wp2_with fail
        have z3 := (((HR6.out.set2 (x := .int .i64 p) (y := .int .i64 b)).far (p := ⟨w.heap.size + 1, 0, none⟩) (by show w.heap.size ≠ w.heap.size + 1; omega) (.int .i64 r)).far (p := ⟨w.heap.size + 1, 1, none⟩) (by show w.heap.size ≠ w.heap.size + 1; omega) (.int .i64 s))
        have z5 := ((HQ6.out.far (p := ⟨w.heap.size, 0, none⟩) (by show w.heap.size + 1 ≠ w.heap.size; omega) (.int .i64 p)).far (p := ⟨w.heap.size, 1, none⟩) (by show w.heap.size + 1 ≠ w.heap.size; omega) (.int .i64 b)).set2 (x := .int .i64 r) (y := .int .i64 s)
        obtain ⟨z4, _, _, _⟩ := z3.after (Below.refl _ _) z3.lt
        obtain ⟨z6, _, _, _⟩ := z5.after (Below.refl _ _) z5.lt
        exact bodyPost_ret (v := .tuple #[.agg #[.int .i64 p, .int .i64 b], .agg #[.int .i64 r, .int .i64 s]]) (by simp [results, Try.results23, go_sem, z4, z6]) rfl ⟨_, _, _, _, rfl, (((B6.setCell (Nat.le_refl _) _).setCell (Nat.le_refl _) _).setCell (Nat.le_succ _) _).setCell (Nat.le_succ _) _⟩
  · have hdc : (itc p q == 0) = false := by simpa using hi
    clear hi
    have hsd : Src w3.drew g B (100 + 60) := hs3.less (by omega)
    obtain ⟨HR, HQ, HT⟩ : Hid (Blk w3 w.heap.size 25 #[.int .i64 0, .int .i64 0]) ∧ Hid (Blk w3 (w.heap.size + 1) 25 #[.int .i64 0, .int .i64 0]) ∧ Hid (Blk w3 bt 25 #[.int .i64 p, .int .i64 q]) := ⟨hR3, hQ3, hT3⟩
    obtain ⟨m1, _, _, _⟩ := HT.out.after (Below.refl _ _) HT.out.lt
    have x0 := m1 0
    have x1 := m1 1
    clear m1 hR3 hQ3 hT3 hs3
    go_wp2_with fail
    go_region_with (first
      | (go_at_call 55; refine (l02Bent_any g B 100 _ hsd).mono ?_; rintro e w6 ⟨r, s, rfl, hs6, hg6'⟩; have hg6 : w3.grownBy w6 (some g) := gtrans (gdrewN w3 1 _) hg6'; have hR6 := HR.out.grown hg6 (fun e => by injection e; omega); have hQ6 := HQ.out.grown hg6 (fun e => by injection e; omega); have hT6 := HT.out.grown hg6 (fun e => by injection e; omega); obtain ⟨f1, _, _, _⟩ := hT6.after (Below.refl _ _) hT6.lt; obtain ⟨k1, _, _, HR6⟩ := hR6.after (Below.refl _ _) hR6.lt; obtain ⟨l1, _, _, HQ6⟩ := hQ6.after (Below.refl _ _) hQ6.lt; have x2 := f1 0; have x3 := f1 1; clear f1 hR6 hQ6 hT6 hg6'))
    all_goals
      have B6 := B3.grown hg6 B3.size (fun k hk => by injection hk; omega)
      go_wp2_with fail
      have z3 := (((HR6.out.set2 (x := .int .i64 p) (y := .int .i64 q)).far (p := ⟨w.heap.size + 1, 0, none⟩) (by show w.heap.size ≠ w.heap.size + 1; omega) (.int .i64 r)).far (p := ⟨w.heap.size + 1, 1, none⟩) (by show w.heap.size ≠ w.heap.size + 1; omega) (.int .i64 s))
      have z5 := ((HQ6.out.far (p := ⟨w.heap.size, 0, none⟩) (by show w.heap.size + 1 ≠ w.heap.size; omega) (.int .i64 p)).far (p := ⟨w.heap.size, 1, none⟩) (by show w.heap.size + 1 ≠ w.heap.size; omega) (.int .i64 q)).set2 (x := .int .i64 r) (y := .int .i64 s)
      obtain ⟨z4, _, _, _⟩ := z3.after (Below.refl _ _) z3.lt
      obtain ⟨z6, _, _, _⟩ := z5.after (Below.refl _ _) z5.lt
      exact bodyPost_ret (v := .tuple #[.agg #[.int .i64 p, .int .i64 q], .agg #[.int .i64 r, .int .i64 s]]) (by simp [results, Try.results23, go_sem, z4, z6]) rfl ⟨_, _, _, _, rfl, (((B6.setCell (Nat.le_refl _) _).setCell (Nat.le_refl _) _).setCell (Nat.le_succ _) _).setCell (Nat.le_succ _) _⟩

end Go.Proofs.Ytnjilpldfidbjaa
