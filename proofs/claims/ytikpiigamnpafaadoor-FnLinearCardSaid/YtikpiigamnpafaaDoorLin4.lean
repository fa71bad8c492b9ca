/- The least solution of a linear equation: the program's and the reference's. -/
import Derived.Test.YtikpiigamnpafaaDoorLin3
import Derived.Test.YtikpiigamnpafaaDoorLinF
namespace Go.Proofs.YtikpiigamnpafaaDoor
open Go.RowKit

def slv (a b c : Int) : Value := if ((Int.gcd a b : Nat) : Int) ∣ c then .tuple #[.int .i64 (lx a b c), .int .i64 (ly a b c), .int .i64 (lu a b), .int .i64 (lv a b), .bool true] else .tuple #[.int .i64 0, .int .i64 0, .int .i64 0, .int .i64 0, .bool false]
def slvS (a b c : Int) : Value := if ((Int.gcd a b : Nat) : Int) ∣ c then .tuple #[.int .i64 (lx a b c), .int .i64 (ly a b c), .bool true] else .tuple #[.int .i64 0, .int .i64 0, .bool false]

theorem quietS {P : Program} {f : Nat} {args : Array Value} {w : World} {v : Value} {n : Nat} (h : Calls P f args (w.drewN n) fun e w' => e = .returned v ∧ w.drewN n = w') : Calls P f args (w.drewN n) fun e w' => e = .returned v ∧ ∃ m, w' = w.drewN m :=
  h.mono fun _ _ ⟨h1, h2⟩ => ⟨h1, n, h2.symm⟩

theorem offN {w w1 : World} {m : Nat} (h : Below (w.drewN m).heap.size (w.drewN m) w1) : Below w.heap.size w w1 := (belowN (Below.refl _ _) m).trans h

theorem solveLinear_any (a b c : Int) (w : World) (ha0 : a ≠ 0) (ha : -1000000 ≤ a ∧ a ≤ 1000000) (hb0 : b ≠ 0) (hb : -1000000 ≤ b ∧ b ≤ 1000000) (hc : -4000000000 ≤ c ∧ c ≤ 4000000000) :
    Calls Tryd.prog 41 #[.int .i64 a, .int .i64 b, .int .i64 c] w fun e w' => e = .returned (slv a b c) ∧ Below w.heap.size w w' := by
  have hg := gcd_pos (a := a) hb0
  have hsb := sz_nat b
  have hsl : 0 ≤ sz b ∧ sz b ≤ 1000000 := by omega
  clear hsb
  have hgl : ((Int.gcd a b : Nat) : Int) ≤ 1000000 := by
    have := lu_mul a b
    have h2 := (lu_pos (a := a) hb0).1
    have : 1 * ((Int.gcd a b : Nat) : Int) ≤ lu a b * (Int.gcd a b : Nat) := Int.mul_le_mul_of_nonneg_right h2 (by omega)
    omega
  have hB := bezout_any a b
  by_cases hd : ((Int.gcd a b : Nat) : Int) ∣ c
  · have HR := hide (show slv a b c = _ from if_pos hd)
    obtain ⟨f1, f2, f3, f4, f5, f6, f7, f8, f9, f10, f11, f12, f13, f14⟩ := sol_facts ha0 ha hb0 hb hc hd
    clear hd
    generalize hgg : (Int.gcd a b : Nat) = g at *
    generalize hX : lx a b c = X at *
    generalize hY : ly a b c = Y at *
    generalize hU : lu a b = U at *
    generalize hV : lv a b = V at *
    generalize hZ : bzX a b = Z at *
    generalize hK : c / (g : Int) = K at *
    have F7 := hide f7
    clear f7 hgg hX hY hU hV hZ hK
    obtain ⟨p, hp⟩ : ∃ p, Z * K = p := ⟨_, rfl⟩
    obtain ⟨q, hq⟩ : ∃ q, a * X = q := ⟨_, rfl⟩
    obtain ⟨r, hr⟩ : ∃ r, -a * U = r := ⟨_, rfl⟩
    rw [hp] at f6
    rw [hq] at f9 f10
    rw [hr] at f12 f13
    have F7 := hide (F7.out)
    rw [hp] at F7
    have hgn : ¬ (g : Int) = 0 := by omega
    go_enter Tryd.func41, Tryd.ntmps41
    go_wp2_with fail
    refine (hB _ ha0 hb0 (by omega) (by omega)).mono ?_
    rintro e w1 ⟨rfl, hb1⟩
    go_wp2_with fail
    refine (implAbs_any _ _ (by omega) (by omega)).mono ?_
    rintro e w2 ⟨rfl, rfl⟩
    go_wp2_with fail
    refine (floorMod_any _ _ _ (by omega) (by omega) (by omega) (by omega) (by omega)).mono ?_
    rintro e w2 ⟨rfl, rfl⟩
    rw [F7.out]
    have s1 : IntKind.i64.wrap q = q := IntWalk.i64_in _ (by omega)
    have s2 : IntKind.i64.wrap (c - q) = c - q := IntWalk.i64_in _ (by omega)
    have s3 : IntKind.i64.wrap Y = Y := IntWalk.i64_in _ (by omega)
    have s4 : IntKind.i64.wrap (-a) = -a := IntWalk.i64_in _ (by omega)
    have s5 : IntKind.i64.wrap r = r := IntWalk.i64_in _ (by omega)
    have s6 : IntKind.i64.wrap V = V := IntWalk.i64_in _ (by omega)
    go_wp2
    go_quiet (fail)
    go_wp2
    go_returns
    exact ⟨by rw [HR.out]; first | done | rfl, belowN hb1 _⟩
  · have HR := hide (show slv a b c = _ from if_neg hd)
    have f1 : c.tmod (Int.gcd a b : Nat) ≠ 0 := fun h => hd (tmod_dvd.1 h)
    have f2 : (c.tmod (Int.gcd a b : Nat) != 0) = true := by simp [f1]
    have f3 := Int.lt_tmod_of_pos c hg
    have f4 := Int.tmod_lt_of_pos c hg
    clear hd
    generalize hgg : (Int.gcd a b : Nat) = g at *
    have hgn : ¬ (g : Int) = 0 := by omega
    generalize hm : c.tmod (g : Int) = m at *
    go_enter Tryd.func41, Tryd.ntmps41
    go_wp2_with fail
    refine (hB _ ha0 hb0 (by omega) (by omega)).mono ?_
    rintro e w1 ⟨rfl, hb1⟩
    go_wp2
    go_returns
    exact ⟨by rw [HR.out]; first | done | rfl, hb1⟩

set_option maxHeartbeats 1000000 in
theorem l21Solve_any (a b c : Int) (w : World) (ha0 : a ≠ 0) (ha : -1000000 ≤ a ∧ a ≤ 1000000) (hb0 : b ≠ 0) (hb : -1000000 ≤ b ∧ b ≤ 1000000) (hc : -4000000000 ≤ c ∧ c ≤ 4000000000) :
    Calls Tryd.prog 42 #[.int .i64 a, .int .i64 b, .int .i64 c] w fun e w' => e = .returned (slvS a b c) ∧ Below w.heap.size w w' := by
  have hg := gcd_pos (a := a) hb0
  have hsb := sz_nat b
  have hsl : 0 ≤ sz b ∧ sz b ≤ 1000000 := by omega
  clear hsb
  have hgl : ((Int.gcd a b : Nat) : Int) ≤ 1000000 := by
    have := lu_mul a b
    have h2 := (lu_pos (a := a) hb0).1
    have : 1 * ((Int.gcd a b : Nat) : Int) ≤ lu a b * (Int.gcd a b : Nat) := Int.mul_le_mul_of_nonneg_right h2 (by omega)
    omega
  have hB := l21Bezout_any a b
  by_cases hd : ((Int.gcd a b : Nat) : Int) ∣ c
  · have HR := hide (show slvS a b c = _ from if_pos hd)
    obtain ⟨f1, f2, f3, f4, f5, _, _, f8, f9, f10, f11, _, _, _⟩ := sol_facts ha0 ha hb0 hb hc hd
    have f7 := lxspec (a := a) (b := b) (c := c)
    have hzb := bzX_bd (a := a) (b := b) ha0 (by omega)
    have m1 := Int.emod_nonneg (bzX a b) (show lu a b ≠ 0 by omega)
    have m2 := Int.emod_lt_of_pos (bzX a b) (show 0 < lu a b by omega)
    have m3 := Int.emod_nonneg (c / (Int.gcd a b : Nat)) (show lu a b ≠ 0 by omega)
    have m4 := Int.emod_lt_of_pos (c / (Int.gcd a b : Nat)) (show 0 < lu a b by omega)
    have m5 := mulb (x := bzX a b % lu a b) (y := c / (Int.gcd a b : Nat) % lu a b) (A := 1000000) (B := 1000000) (by omega) (by omega)
    clear hd
    generalize hgg : (Int.gcd a b : Nat) = g at *
    generalize hX : lx a b c = X at *
    generalize hY : ly a b c = Y at *
    generalize hU : lu a b = U at *
    generalize hZ : bzX a b = Z at *
    generalize hK : c / (g : Int) = K at *
    have F7 := hide f7
    clear f7 hgg hX hY hU hZ hK
    generalize hM1 : Z % U = M1 at *
    generalize hM2 : K % U = M2 at *
    obtain ⟨p, hp⟩ : ∃ p, M1 * M2 = p := ⟨_, rfl⟩
    obtain ⟨q, hq⟩ : ∃ q, a * X = q := ⟨_, rfl⟩
    rw [hp] at m5
    rw [hq] at f9 f10
    rw [hp] at F7
    have HM1 := hide hM1
    have HM2 := hide hM2
    clear hM1 hM2
    have hgn : ¬ (g : Int) = 0 := by omega
    go_enter Tryd.func42, Tryd.ntmps42
    go_wp2_with fail
    refine (hB _ ha0 hb0 (by omega) (by omega)).mono ?_
    rintro e w1 ⟨rfl, hb1⟩
    go_wp2_with fail
    refine (specSize_any _ _ (by omega) (by omega)).mono ?_
    rintro e w2 ⟨rfl, rfl⟩
    go_wp2_with fail
    have s0 : IntKind.i64.wrap K = K := IntWalk.i64_in _ (by omega)
    have s1 : IntKind.i64.wrap p = p := IntWalk.i64_in _ (by omega)
    have q1 : ∀ w', Calls Tryd.prog 68 #[.int .i64 Z, .int .i64 U] w' fun e w'' => e = .returned (.int .i64 M1) ∧ w' = w'' := fun w' => by have := specMod_any Z U w' (by omega) (by omega); rwa [HM1.out] at this
    have q2 : ∀ w', Calls Tryd.prog 68 #[.int .i64 K, .int .i64 U] w' fun e w'' => e = .returned (.int .i64 M2) ∧ w' = w'' := fun w' => by have := specMod_any K U w' (by omega) (by omega); rwa [HM2.out] at this
    have q3 : ∀ w', Calls Tryd.prog 68 #[.int .i64 p, .int .i64 U] w' fun e w'' => e = .returned (.int .i64 X) ∧ w' = w'' := fun w' => by have := specMod_any p U w' (by omega) (by omega); rwa [F7.out] at this
    go_quiet (first | (with_reducible exact quietS (q1 _)) | (with_reducible exact quietS (q2 _)) | (with_reducible exact quietS (q3 _)))
    go_wp2
    go_quiet (fail)
    go_wp2
    go_returns
    exact ⟨by rw [HR.out]; first | done | rfl, belowN (belowN hb1 _) _⟩
  · have HR := hide (show slvS a b c = _ from if_neg hd)
    have f1 : c.tmod (Int.gcd a b : Nat) ≠ 0 := fun h => hd (tmod_dvd.1 h)
    have f2 : (c.tmod (Int.gcd a b : Nat) != 0) = true := by simp [f1]
    have f3 := Int.lt_tmod_of_pos c hg
    have f4 := Int.tmod_lt_of_pos c hg
    clear hd
    generalize hgg : (Int.gcd a b : Nat) = g at *
    have hgn : ¬ (g : Int) = 0 := by omega
    generalize hm : c.tmod (g : Int) = m at *
    go_enter Tryd.func42, Tryd.ntmps42
    go_wp2_with fail
    refine (hB _ ha0 hb0 (by omega) (by omega)).mono ?_
    rintro e w1 ⟨rfl, hb1⟩
    go_wp2
    go_returns
    exact ⟨by rw [HR.out]; first | done | rfl, hb1⟩

end Go.Proofs.YtikpiigamnpafaaDoor
