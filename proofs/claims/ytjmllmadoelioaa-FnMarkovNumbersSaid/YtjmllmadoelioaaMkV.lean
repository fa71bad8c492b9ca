/- FnMarkovNumbers: what its calls give; the draws of numbers; facts on each Markov number. -/
import Derived.Test.YtjmllmadoelioaaMkQ
import Derived.Test.YtjmllmadoelioaaMkI
import Derived.Test.YtjmllmadoelioaaMkU
import Derived.Test.YtjmllmadoelioaaSrt
import Derived.Shelf.SlSortCmp.QuietGrown
namespace Go.Proofs.Ytjmllmadoelioaa
open Go.RowKit Go.Sort

def u8l (zs : List Int) : List Value := zs.map (Value.int .u8)
def countT (M : Int) : Int := if inB M 1 1000000 = true then (allT M).length else 0
theorem sizeT_any (A : Option Addr) (n c : Nat) (w : World) (_ : n ≤ 9223372036854775807) :
    Calls Try.prog 59 #[.slice A n c] w fun e w' => e = .returned (.int .i64 n) ∧ w = w' := by
  go_enter Try.func59, Try.ntmps59
  go_wp2
  go_ret
  exact ⟨rfl, rfl⟩
theorem implCountTriples_any (M : Int) (w : World) :
    Calls Try.prog 36 #[.int .i64 M] w fun e w' => e = .returned (.tuple #[.int .i64 (countT M), .int .i64 (mcode M)]) ∧ Below w.heap.size w w' := by
  by_cases hb : inB M 1 1000000 = true
  · obtain ⟨h1, h2⟩ := inB_iff.1 hb
    go_enter Try.func36, Try.ntmps36
    go_wp2_with (go_at_call 47; refine (isListed_any _ _).mono ?_; rintro e w' ⟨rfl, rfl⟩)
    refine (triplesUpTo_any M _ h1 h2).mono ?_
    rintro e w1 ⟨g, c, ts, rfl, hg, hr, hp, hb1⟩
    have hl := hp.length_eq
    have hA := allT_len M
    have HL := hide hl
    have hn : ts.length ≤ 9223372036854775807 := by omega
    clear hr hp hl
    go_wp2_with fail
    refine (sizeT_any _ _ _ _ hn).mono ?_
    rintro e w2 ⟨rfl, rfl⟩
    go_wp2
    go_ret2
    exact ⟨by simp only [countT, mcode, hb, if_true]; rw [HL.out]; rfl, hb1⟩
  · have hb' : inB M 1 1000000 = false := by simpa using hb
    clear hb
    go_enter Try.func36, Try.ntmps36
    go_wp2_with (go_at_call 47; refine (isListed_any _ _).mono ?_; rintro e w' ⟨rfl, rfl⟩)
    go_ret2
    exact ⟨by simp [countT, mcode, hb'], Below.refl _ _⟩

theorem a2Long_any (A : Option Addr) (n c : Nat) (w : World) (hn : n ≤ 9223372036854775807) :
    Calls Try.prog 34 #[.slice A n c, .slice none 0 0] w fun e w' => e = .returned (.bool (decide (3000 < n))) ∧ w = w' := by
  by_cases h : 3000 < n
  · have e : decide ((3000 : Int) < (n : Int)) = true := decide_eq_true (by omega)
    rw [decide_eq_true h]
    go_enter Try.func34, Try.ntmps34
    go_wp2
    go_ret
    exact ⟨rfl, rfl⟩
  · have e : decide ((3000 : Int) < (n : Int)) = false := decide_eq_false (by omega)
    rw [decide_eq_false h]
    go_enter Try.func34, Try.ntmps34
    go_wp2
    go_ret
    exact ⟨rfl, rfl⟩

theorem a2At_any (A : Option Addr) (n c B : Nat) (xs : List Int) (i : Nat) (m : Int) (w : World) (h : Rd w B 1 A n (u8l xs)) (hn : n ≤ 3000) (hi : i ≤ 3000) (hx : ∀ x ∈ xs, 0 ≤ x ∧ x ≤ 255) (hm : 1 ≤ m ∧ m ≤ 1000000) :
    Calls Try.prog 35 #[.slice A n c, .int .i64 i, .int .i64 m] w fun e w' => ∃ v, e = .returned (.int .i64 v) ∧ 0 ≤ v ∧ v < m ∧ w = w' := by
  have hl : xs.length = n := by have := h.1; simpa [u8l] using this
  have hm1 : decide (m < 1) = false := decide_eq_false (by omega)
  by_cases hin : i < n
  · have hd : decide ((n : Int) ≤ (i : Int)) = false := decide_eq_false (by omega)
    obtain ⟨b, o, rfl, hb, hc⟩ := h.2 (by omega)
    have hx1 := hx _ (List.getElem_mem (show i < xs.length by omega))
    have c1 : w.cell? ⟨b, o + i, none⟩ = some (.int .u8 (xs[i]'(by omega))) := hc i _ (by simp [u8l, hl, hin])
    have i1 : (i : Int) < (n : Int) := by omega
    clear h hc hx
    generalize (xs[i]'(by omega)) = x at *
    have t1 : Int.tmod x m = x % m := Int.tmod_eq_emod_of_nonneg hx1.1
    have m0 : 0 ≤ x % m := Int.emod_nonneg _ (by omega)
    have m9 : x % m < m := Int.emod_lt_of_pos _ (by omega)
    have hm0 : ¬ m = 0 := by omega
    go_enter Try.func35, Try.ntmps35
    go_wp2
    go_ret
    exact ⟨_, rfl, m0, m9, rfl⟩
  · have hd : decide ((n : Int) ≤ (i : Int)) = true := decide_eq_true (by omega)
    clear h
    go_enter Try.func35, Try.ntmps35
    go_wp2
    go_ret
    exact ⟨0, rfl, by omega, by omega, rfl⟩

theorem specValidTriple_any (X Y Z : Int) (w : World) :
    Calls Try.prog 37 #[.agg #[.int .i64 X, .int .i64 Y, .int .i64 Z]] w fun e w' => e = .returned (.bool (vtB X Y Z)) ∧ Below w.heap.size w w' := by
  go_enter Try.func37, Try.ntmps37
  go_wp2_with fail
  refine (l22Ok_any X Y Z _).mono ?_
  rintro e w1 ⟨rfl, hb1⟩
  have hB := bstep (show Below w.heap.size w _ by go_grown) hb1 (by simp)
  go_wp2_with fail
  go_ret
  exact ⟨rfl, hB⟩

theorem l22Ok_grown (X Y Z : Int) (w : World) (hv : vtB X Y Z = true) :
    Calls Try.prog 38 #[.agg #[.int .i64 X, .int .i64 Y, .int .i64 Z]] w fun e w' => e = .returned (.bool true) ∧ ∃ m os, w' = grow (w.drewN m) os := by
  obtain ⟨h, heq⟩ := vtB_iff.1 hv
  obtain ⟨⟨f1, f2⟩, ⟨f3, f4⟩, ⟨f5, f6⟩, ⟨f7, f8⟩⟩ := rng_facts h
  obtain ⟨h1, h2, h3, h4⟩ := h
  have e1 := inB_of (n := X) (lo := 1) (hi := 1000000000) ⟨by omega, by omega⟩
  have e2 := inB_of (n := Y) (lo := 1) (hi := 1000000000) ⟨by omega, by omega⟩
  have e3 := inB_of (n := Z) (lo := 1) (hi := 1000000000) ⟨by omega, by omega⟩
  have hq : X * Y ≤ 1000000000000000000 / Z := by
    rcases Int.lt_or_le (1000000000000000000 / Z) (X * Y) with h | h
    · have := triple_gt (by omega) h
      rw [triple_eq] at heq
      omega
    · exact h
  obtain ⟨g1, g2⟩ := triple_le (by omega) f1 hq
  have g3 : 0 ≤ 3 * X * Y ∧ 3 * X * Y ≤ 3000000000000000000 := by rw [Int.mul_assoc]; omega
  have g4 : 0 ≤ 3 * X * Y * Z ∧ 3 * X * Y * Z ≤ 3000000000000000000 := by rw [triple_eq]; omega
  obtain ⟨g5, g6⟩ := g3
  obtain ⟨g7, g8⟩ := g4
  have HE := hide heq
  clear heq hv
  go_enter Try.func38, Try.ntmps38
  go_wp2_with (go_at_call 60; refine (l22Num_any _ _).mono ?_; rintro e w' ⟨rfl, rfl⟩)
  go_quiet (fail)
  go_wp2
  go_ret
  refine ⟨?_, _, _, by rw [alloc_eq_grow]; rfl⟩
  have hr : (X * X + Y * Y + Z * Z == 3 * X * Y * Z) = true := beq_iff_eq.2 HE.out
  rw [← hr]; rfl
theorem specValidTriple_grown (X Y Z : Int) (w : World) (hv : vtB X Y Z = true) :
    Calls Try.prog 37 #[.agg #[.int .i64 X, .int .i64 Y, .int .i64 Z]] w fun e w' => e = .returned (.bool true) ∧ ∃ m os, w' = grow (w.drewN m) os := by
  have hO := fun w' => l22Ok_grown X Y Z w' hv
  clear hv
  go_enter Try.func37, Try.ntmps37
  go_wp2_with fail
  refine (hO _).mono ?_
  rintro e w1 ⟨rfl, m, os, rfl⟩
  go_wp2_with fail
  go_ret
  refine ⟨rfl, m, #[.cells #[.int .i64 X, .int .i64 Y, .int .i64 Z] 24] ++ os, ?_⟩
  rw [alloc_eq_grow]
  exact grow_grow (w.drewN m) _ _

/-- What the law asks of each Markov number up to M. -/
theorem mn_facts {M : Int} (h1 : 1 ≤ M ∧ M ≤ 1024) {z : Int} (hz : z ∈ puts (zl (allT M))) :
    1 ≤ z ∧ z ≤ M ∧ imb z = true ∧ mcode z = 0 ∧ tfx z = tof z ∧ 0 < (tof z).length ∧ lsc z = 0 ∧ 1 ≤ lsd z ∧ lsd z ≤ 100000000 ∧ lsn z < 9 * lsd z ∧ 5 * lsd z ≤ lsn z ∧ lsn z ≤ 900000000 ∧ ∀ t ∈ tof z, vtB t.x t.y t.z = true ∧ t.z = z := by
  obtain ⟨a1, a2, a3⟩ := mn_bd h1.1 hz
  have hb : inB z 1 1000000 = true := inB_of (by omega)
  have e1 : imb z = true := by unfold imb; rw [hb, decide_eq_true a3]; rfl
  have e2 : mcode z = 0 := by unfold mcode; rw [if_pos hb]
  have e3 : tfx z = tof z := by unfold tfx; rw [if_pos hb]
  have e4 : lsc z = 0 := by unfold lsc; rw [if_pos (by omega), if_pos a3]
  obtain ⟨⟨b1, b2⟩, ⟨b3, b4⟩, b5, b6⟩ := ls_bd (M := z) (by omega)
  have e5 : lsn z = (9 * z * z - 4) / (Int.gcd (9 * z * z - 4) (z * z) : Nat) := by unfold lsn; rw [if_pos e4]
  have e6 : lsd z = z * z / (Int.gcd (9 * z * z - 4) (z * z) : Nat) := by unfold lsd; rw [if_pos e4]
  have hp : 0 < Int.gcd (9 * z * z - 4) (z * z) := Int.gcd_pos_of_ne_zero_right _ (by omega)
  obtain ⟨p, hpp⟩ := Int.gcd_dvd_left (a := 9 * z * z - 4) (b := z * z)
  obtain ⟨q, hqq⟩ := Int.gcd_dvd_right (a := 9 * z * z - 4) (b := z * z)
  have h9 : 9 * z * z = 9 * (z * z) := Int.mul_assoc _ _ _
  have hg : (1 : Int) ≤ ((Int.gcd (9 * z * z - 4) (z * z) : Nat) : Int) := by omega
  generalize ((Int.gcd (9 * z * z - 4) (z * z) : Nat) : Int) = g at *
  rw [hpp, Int.mul_ediv_cancel_left _ (by omega)] at e5
  rw [hqq, Int.mul_ediv_cancel_left _ (by omega)] at e6
  have k1 : p < 9 * q := by
    refine Int.lt_of_mul_lt_mul_left (a := g) ?_ (by omega)
    rw [← hpp, Int.mul_left_comm, ← hqq]; omega
  have k2 : 5 * q ≤ p := by
    refine Int.le_of_mul_le_mul_left (a := g) ?_ (by omega)
    rw [← hpp, Int.mul_left_comm, ← hqq]; omega
  have k3 : 1 ≤ q := by
    have : 0 < q := by
      refine Int.lt_of_mul_lt_mul_left (a := g) ?_ (by omega)
      rw [← hqq]; omega
    omega
  have k4 : q ≤ 100000000 := by
    have : 1 * q ≤ g * q := Int.mul_le_mul_of_nonneg_right hg (by omega)
    omega
  rw [e5, e6]
  refine ⟨a1, a2, e1, e2, e3, a3, e4, k3, k4, k1, k2, by omega, fun t ht => ?_⟩
  obtain ⟨m1, m2⟩ := tof_mem a1 ht
  obtain ⟨⟨c1, c2, c3⟩, c4⟩ := m1
  exact ⟨vtB_iff.2 ⟨⟨c1, c2, c3, by omega⟩, c4⟩, m2⟩
def psum (L : List Int) (j : Nat) : Nat := ((L.take j).map fun z => (tof z).length).sum
theorem psum_succ {L : List Int} {j : Nat} (h : j < L.length) : psum L (j + 1) = psum L j + (tof L[j]).length := by
  unfold psum
  rw [List.take_succ_eq_append_getElem h, List.map_append, List.sum_append]; simp
theorem psum_all {M : Int} (h1 : 1 ≤ M ∧ M ≤ 1024) : ((psum (puts (zl (allT M))) (puts (zl (allT M))).length : Nat) : Int) = countT M := by
  unfold psum countT
  rw [List.take_length, tof_sum h1.1, if_pos (inB_of (by omega))]
theorem nat_sum_append_le (A B : List Nat) : A.sum ≤ (A ++ B).sum := by rw [List.sum_append]; omega
theorem psum_le (L : List Int) (j : Nat) : psum L j ≤ psum L L.length := by
  unfold psum
  rw [List.take_length]
  conv => rhs; rw [← List.take_append_drop j L, List.map_append]
  exact nat_sum_append_le _ _
theorem mnx_eq {M : Int} (h1 : 1 ≤ M ∧ M ≤ 1024) : mnx M = puts (zl (allT M)) ∧ mcode M = 0 := by
  have hb : inB M 1 1000000 = true := inB_of (by omega)
  exact ⟨by unfold mnx; rw [if_pos hb], by unfold mcode; rw [if_pos hb]⟩
theorem mn_asc {L : List Int} (h : L.Pairwise (· < ·)) {i : Nat} (hi : i + 1 < L.length) : L[i] < L[i + 1] := List.pairwise_iff_getElem.1 h i (i + 1) (by omega) hi (by omega)
/-- Whether the last number drawn is a Markov number. -/
theorem imb_fact {N M : Int} (hN : 1 ≤ N ∧ N ≤ 1000) : mcode N = 0 ∧ (M < N ∨ imb N = decide (N ∈ puts (zl (allT M)))) := by
  have hb : inB N 1 1000000 = true := inB_of (by omega)
  refine ⟨by unfold mcode; rw [if_pos hb], ?_⟩
  by_cases h : M < N
  · exact .inl h
  · right
    unfold imb
    rw [hb, Bool.true_and]
    exact decide_eq_decide.2 (mn_mem hN.1 (by omega))

end Go.Proofs.Ytjmllmadoelioaa
