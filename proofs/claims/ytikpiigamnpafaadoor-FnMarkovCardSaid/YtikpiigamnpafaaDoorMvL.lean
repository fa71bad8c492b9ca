/- FnMarkov: children have their parent again, ways lead back to their triples. -/
import Derived.Test.YtikpiigamnpafaaDoorMvD
import Derived.Test.YtikpiigamnpafaaDoorTrT
namespace Go.Proofs.YtikpiigamnpafaaDoor
open Go.RowKit Go.Sort

theorem kid_double {t : T3} (h : Mv t) (r : Bool) : 2 * t.z ≤ (t.kid r).z := by
  have g1 := (T3.Up.left h.1).2
  have g2 := (T3.Up.right h.1).2
  cases r
  · exact g1
  · exact g2
theorem way_len : ∀ (k : Nat) (t : T3), Mv t → t.z < 2 ^ k → (way t).length ≤ k
  | 0, t, h, hz => by
    have := h.1.1
    have := h.1.2.1
    have := h.1.2.2
    simp at hz
    omega
  | k + 1, t, h, hz => by
    by_cases h5 : 5 < t.z
    · rw [way_up h h5, List.length_append]
      have hk := kid_of_up h h5
      obtain ⟨u1, u2⟩ := up_mv h (by omega)
      have := kid_double u1 (decide (t.x = t.up.y))
      rw [hk] at this
      have ih := way_len k t.up u1 (by rw [Int.pow_succ] at hz; omega)
      simp; omega
    · rw [way_done h5]; simp

theorem a2Long2_any (A A' : Option Addr) (n c n' c' : Nat) (w : World) (hn : n ≤ 9223372036854775807) (hn' : n' ≤ 9223372036854775807) :
    Calls Tryd.prog 24 #[.slice A n c, .slice A' n' c'] w fun e w' => e = .returned (.bool (decide (3000 < n ∨ 3000 < n'))) ∧ w = w' := by
  by_cases h : 3000 < n
  · have e : decide ((3000 : Int) < (n : Int)) = true := decide_eq_true (by omega)
    rw [decide_eq_true (.inl h)]
    go_enter Tryd.func24, Tryd.ntmps24
    go_wp2
    go_ret
    exact ⟨rfl, rfl⟩
  · have e : decide ((3000 : Int) < (n : Int)) = false := decide_eq_false (by omega)
    by_cases h' : 3000 < n'
    · have e' : decide ((3000 : Int) < (n' : Int)) = true := decide_eq_true (by omega)
      rw [decide_eq_true (.inr h')]
      go_enter Tryd.func24, Tryd.ntmps24
      go_wp2
      go_ret
      exact ⟨rfl, rfl⟩
    · have e' : decide ((3000 : Int) < (n' : Int)) = false := decide_eq_false (by omega)
      rw [decide_eq_false (by omega)]
      go_enter Tryd.func24, Tryd.ntmps24
      go_wp2
      go_ret
      exact ⟨rfl, rfl⟩

theorem a2Triple_any (A : Option Addr) (n c : Nat) (xs : List Int) (w : World) (h : Rd w w.heap.size 1 A n (u8l xs)) (hn : n ≤ 9223372036854775807) (hx : ∀ x ∈ xs, 0 ≤ x ∧ x ≤ 255) :
    Calls Tryd.prog 25 #[.slice A n c] w fun e w' => ∃ X Y Z : Int, e = .returned (.agg #[.int .i64 X, .int .i64 Y, .int .i64 Z]) ∧ vtB X Y Z = true ∧ Below w.heap.size w w' := by
  go_enter Tryd.func25, Tryd.ntmps25
  have b0 : Below w.heap.size w (w.alloc (.cells #[.int .i64 0, .int .i64 0, .int .i64 0] 27)) := by go_grown
  have hR0 := Blk.new w 27 #[.int .i64 0, .int .i64 0, .int .i64 0]
  have h1 := (h.below b0).more b0.size
  go_wp2_with fail
  refine (l00From_any A n c xs _ h1 hn hx).mono ?_
  rintro e w1 ⟨g, rfl, hs1, hb1⟩
  have hR1 := (hb1.block w.heap.size (by simp)).trans hR0
  have hgg := hs1.base_
  simp at hgg
  have B1 := bstep b0 hb1 b0.size
  clear h1 hR0
  go_wp2_with fail
  refine (l22Draw_any g _ 100 _ (hs1.less (by omega))).mono ?_
  rintro e w2 ⟨X, Y, Z, rfl, hv, hg2⟩
  have hR2 := Blk.grown (show Blk w1 w.heap.size 27 #[.int .i64 0, .int .i64 0, .int .i64 0] from hR1) hg2 (fun e => by injection e; omega)
  have B2 : Below w.heap.size w w2 := B1.grown hg2 B1.size (fun k hk => by injection hk; omega)
  obtain ⟨c1, c2, c3, HR⟩ := hR2.after (Below.refl _ _) hR2.lt
  have HV := hide hv
  clear hR1 hR2 hs1 hg2 hv
  go_wp2_with fail
  have z3 := HR.out.set3 (x := .int .i64 X) (y := .int .i64 Y) (z := .int .i64 Z)
  obtain ⟨z4, _, _, _⟩ := z3.after (Below.refl _ _) z3.lt
  refine bodyPost_ret (v := .agg #[.int .i64 X, .int .i64 Y, .int .i64 Z]) (by simp [results, Tryd.results25, go_sem, z4]) rfl ⟨_, _, _, rfl, HV.out, bset3 B2 (Nat.le_refl _) _ _ _⟩

end Go.Proofs.YtikpiigamnpafaaDoor
