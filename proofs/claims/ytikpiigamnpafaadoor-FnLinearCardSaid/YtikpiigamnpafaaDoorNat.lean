/- NaturalSolutions: the program's and the reference's. -/
import Derived.Test.YtikpiigamnpafaaDoorRR
import Derived.Test.YtikpiigamnpafaaDoorLin5
import Derived.Deep.AppendLies
namespace Go.Proofs.YtikpiigamnpafaaDoor
open Go.RowKit

def nsf (a b c : Int) (k : Nat) : Int × Int := (lx a b c + k * lu a b, ly a b c + k * lv a b)
/-- The first k solutions. -/
def nsk (a b c : Int) (k : Nat) : List (Int × Int) := (List.range k).map (nsf a b c)
theorem nsk_len (a b c : Int) (k : Nat) : (nsk a b c k).length = k := by simp [nsk]
theorem nsk_succ (a b c : Int) (k : Nat) : nsk a b c (k + 1) = nsk a b c k ++ [nsf a b c k] := by simp [nsk, List.range_succ]
def nsc (a b c : Int) : Int := if naB a b c = true then (if 1000 < lcnt a b c then 5 else 0) else 2
def nsx (a b c : Int) : List (Int × Int) := if nsc a b c = 0 then nsk a b c (lcnt a b c).toNat else []

theorem prodk {k : Nat} {x M : Int} (hk : k ≤ 1000) (hx : -M ≤ x ∧ x ≤ M) (hM : 0 ≤ M) : -(1000 * M) ≤ (k : Int) * x ∧ (k : Int) * x ≤ 1000 * M := by
  have h1 : (k : Int) * x ≤ (k : Int) * M := Int.mul_le_mul_of_nonneg_left hx.2 (by omega)
  have h2 : (k : Int) * (-M) ≤ (k : Int) * x := Int.mul_le_mul_of_nonneg_left hx.1 (by omega)
  have h3 : (k : Int) * M ≤ 1000 * M := Int.mul_le_mul_of_nonneg_right (by omega) hM
  rw [Int.mul_neg] at h2
  omega
theorem step_alg {a b c X U k Y V : Int} (h1 : b * Y = c - a * X) (h2 : -a * U = b * V) : c - a * (X + k * U) = b * (Y + k * V) := by grind
/-- What a round wants. -/
theorem ns_step {a b c : Int} {k : Nat} (ha : 1 ≤ a ∧ a ≤ 1000000) (hb : 1 ≤ b ∧ b ≤ 1000000) (hc : 0 ≤ c ∧ c ≤ 1000000000) (hd : ((Int.gcd a b : Nat) : Int) ∣ c) (hk : k ≤ 1000) :
    (0 ≤ (k : Int) * lu a b ∧ (k : Int) * lu a b ≤ 1000000000) ∧ (0 ≤ lx a b c ∧ lx a b c ≤ 1000000) ∧ (-1000000000 ≤ (k : Int) * lv a b ∧ (k : Int) * lv a b ≤ 1000000000) ∧ (-1004000000000 ≤ ly a b c ∧ ly a b c ≤ 1004000000000) ∧
    (0 ≤ a * (lx a b c + k * lu a b) ∧ a * (lx a b c + k * lu a b) ≤ 1001000000000000) ∧ (c - a * (lx a b c + k * lu a b)).tdiv b = ly a b c + k * lv a b := by
  obtain ⟨-, -, -, -, f5, -, -, f8, -, -, f11, -, -, f14⟩ := sol_facts (a := a) (b := b) (c := c) (by omega) (by omega) (by omega) (by omega) (by omega) hd
  have h1 := prodk (k := k) (x := lu a b) (M := 1000000) hk (by omega) (by omega)
  have h2 := prodk (k := k) (x := lv a b) (M := 1000000) hk (by omega) (by omega)
  have h3 : 0 ≤ (k : Int) * lu a b := Int.mul_nonneg (by omega) (by omega)
  have h4 : 0 ≤ a * (lx a b c + k * lu a b) := Int.mul_nonneg (by omega) (by omega)
  have h5 : a * (lx a b c + k * lu a b) ≤ 1000000 * (lx a b c + k * lu a b) := Int.mul_le_mul_of_nonneg_right ha.2 (by omega)
  have e1 := ly_main (a := a) (b := b) (c := c) (by omega) hd
  have e2 := lv_main (a := a) (b := b) (by omega)
  have e := step_alg (k := (k : Int)) e1 (V := lv a b) e2
  refine ⟨by omega, by omega, by omega, by omega, by omega, ?_⟩
  rw [e]
  exact Int.mul_tdiv_cancel_left _ (by omega)

theorem nsx_no {a b c : Int} (h : naB a b c = false) : nsc a b c = 2 ∧ nsx a b c = [] := by
  have h1 : nsc a b c = 2 := by unfold nsc; rw [h]; rfl
  exact ⟨h1, by unfold nsx; rw [h1]; rfl⟩
theorem nsx_full {a b c : Int} (h : naB a b c = true) (h2 : 1000 < lcnt a b c) : nsc a b c = 5 ∧ nsx a b c = [] := by
  have h1 : nsc a b c = 5 := by unfold nsc; rw [if_pos h, if_pos h2]
  exact ⟨h1, by unfold nsx; rw [h1]; rfl⟩
theorem nsx_ok {a b c : Int} (h : naB a b c = true) (h2 : ¬ 1000 < lcnt a b c) : nsc a b c = 0 ∧ nsx a b c = nsk a b c (lcnt a b c).toNat := by
  have h1 : nsc a b c = 0 := by unfold nsc; rw [if_pos h, if_neg h2]
  exact ⟨h1, by unfold nsx; rw [if_pos h1]⟩

set_option maxRecDepth 100000 in
set_option maxHeartbeats 2000000 in
theorem implNatural_any (a b c : Int) (w : World) :
    Calls Tryd.prog 19 #[.int .i64 a, .int .i64 b, .int .i64 c] w fun e w' => ∃ v gs, e = .returned (.tuple #[v, .int .i64 (nsc a b c)]) ∧ RR w' w.heap.size v (nsx a b c).length gs (nsx a b c) ∧ Below w.heap.size w w' := by
  obtain ⟨i0, hi, hz0, hz1, hz2⟩ := info_parts info_is
  have hN := isNatural_any a b c
  by_cases hna : naB a b c = true
  · obtain ⟨ha, hb, hc⟩ := naB_iff.1 hna
    have hC := fun w => countNatural_any a b c w hna
    rw [hna] at hN
    by_cases hf : 1000 < lcnt a b c
    · obtain ⟨e1, e2⟩ := nsx_full hna hf
      rw [e1, e2]
      generalize lcnt a b c = N at *
      clear e1 e2 hna
      go_enter Tryd.func19, Tryd.ntmps19
      go_wp2_with fail
      refine (hN _).mono ?_
      rintro e w1 ⟨rfl, rfl⟩
      go_wp2_with fail
      refine (hC _).mono ?_
      rintro e w1 ⟨rfl, b1⟩
      go_wp2_with fail
      go_returns
      exact ⟨_, [], rfl, RR.nil_ _ _, b1⟩
    · obtain ⟨e1, e2⟩ := nsx_ok hna hf
      rw [e1, e2]
      have hS := fun w => solveLinear_any a b c w (by omega) (by omega) (by omega) (by omega) (by omega)
      have hN0 : 0 ≤ lcnt a b c := by
        unfold lcnt
        split
        · rename_i h
          have := (nat_facts ha hb h.1).2.1
          have := Int.ediv_nonneg h.2 (show 0 ≤ a / ((Int.gcd a b : Nat) : Int) by omega)
          omega
        · omega
      obtain ⟨x, y, u, v, ok, hs, hfa⟩ : ∃ x y u v ok, slv a b c = .tuple #[.int .i64 x, .int .i64 y, .int .i64 u, .int .i64 v, .bool ok] ∧ (0 < lcnt a b c → ∀ k : Nat, k ≤ 1000 → (0 ≤ (k : Int) * u ∧ (k : Int) * u ≤ 1000000000) ∧ (0 ≤ x ∧ x ≤ 1000000) ∧ (-1000000000 ≤ (k : Int) * v ∧ (k : Int) * v ≤ 1000000000) ∧ (-1004000000000 ≤ y ∧ y ≤ 1004000000000) ∧ nsf a b c k = (x + k * u, y + k * v)) := by
        unfold slv
        by_cases hd : ((Int.gcd a b : Nat) : Int) ∣ c
        · rw [if_pos hd]
          refine ⟨_, _, _, _, _, rfl, fun _ k hk => ?_⟩
          obtain ⟨g1, g2, g3, g4, _⟩ := ns_step ha hb hc hd hk
          exact ⟨g1, g2, g3, g4, rfl⟩
        · rw [if_neg hd]
          refine ⟨_, _, _, _, _, rfl, fun h => ?_⟩
          unfold lcnt at h
          rw [if_neg (fun h => hd h.1)] at h
          omega
      rw [hs] at hS
      obtain ⟨M, hM⟩ : ∃ M : Nat, lcnt a b c = M := ⟨(lcnt a b c).toNat, by omega⟩
      rw [hM] at hC hf hfa ⊢
      rw [Int.toNat_natCast, nsk_len]
      have hM1 : M ≤ 1000 := by omega
      have HFA := hide hfa
      clear e1 e2 hna hs hM hN0 hfa ha hb hc
      go_enter Tryd.func19, Tryd.ntmps19
      go_wp2_with fail
      refine (hN _).mono ?_
      rintro e w1 ⟨rfl, rfl⟩
      go_wp2_with fail
      refine (hC _).mono ?_
      rintro e w1 ⟨rfl, b1⟩
      go_wp2_with fail
      refine (hS _).mono ?_
      rintro e w2 ⟨rfl, b2⟩
      have B2 := bstep b1 b2 b1.size
      clear hN hC hS b1 b2
      go_wp2_with fail
      go_loopw [14, 15, 38] (fun lv kv iv wr => ∃ (k : Nat) (gs : List Nat), iv = .int .i64 k ∧ k ≤ M ∧ RR wr w.heap.size lv k gs (nsk a b c k) ∧ Below w.heap.size w wr) (fun _ _ iv _ => M - (intOf iv).toNat)
      case atStart => exact ⟨0, [], rfl, by omega, RR.nil_ _ _, B2⟩
      case round =>
        clear B2
        obtain ⟨k, gs, rfl, hk, hrr, hbel⟩ := hrel
        have sr := hbel.size
        by_cases hlt : k < M
        · obtain ⟨g1, g2, g3, g4, g5⟩ := HFA.out (by omega) k (by omega)
          have hkz : (k : Int) < (M : Int) := by omega
          have HRR := hide hrr
          have HF := hide g5
          have hgw : w.heap.size ≤ wr.heap.size + 1 + 1 := by omega
          have s1 : IntKind.i64.wrap ((k : Int) * u) = (k : Int) * u := IntWalk.i64_in _ (by omega)
          have s2 : IntKind.i64.wrap ((k : Int) * v) = (k : Int) * v := IntWalk.i64_in _ (by omega)
          clear hrr g5
          go_wp2_with (at_builtin; refine wpList_append_lies _ rfl (.tmp 41) (.tmp 53) _ rfl w.heap.size 44 i0 _ 1 24 Tryd.underlying38 hi hz0 hz1 hz2 rfl (by omega) u14 k (sls gs) (by rfl) (own_below (own_below HRR.out.own ((Below.refl _ _).alloc (Nat.le_refl _) _)) ((Below.refl _ _).alloc (Nat.le_refl _) _)) ⟨wr.heap.size + 1, 0, none⟩ 1 1 [.slice (some ⟨wr.heap.size, 0, none⟩) 2 2] (by rfl) (by rfl) (news_new (by simp)) (by simp [Value.oneCell']) (by omega) (by simp only [maxLen]; omega) (by omega) (by simp; omega) (wr.heap.size + 1 + 1) (by simp) ?_; intro g8 c8 w8 hown8 hgrow8 hat8 hlt8)
          have hpush := RR.push (x := x + k * u) (y := y + k * v) HRR.out sr rfl hown8 hgrow8 (by simpa using hat8)
          have hbn := ((hbel.alloc sr (.cells #[.int .i64 (x + k * u), .int .i64 (y + k * v)] 2)).alloc (by simp; omega) (.cells #[.slice (some ⟨wr.heap.size, 0, none⟩) 2 2] 44)).grown hgrow8 (by simp; omega) (fun b hb => own_base HRR.out.own b hb)
          have HP := hide hpush
          have HB := hide hbn
          clear hpush hbn hown8 hgrow8 hat8
          go_wp2_with fail
          go_roundw
          case rel => exact ⟨k + 1, gs ++ [wr.heap.size], by go_num, by omega, by rw [nsk_succ, HF.out]; exact HP.out, HB.out⟩
          case measure => simp [intOf]; omega
        · obtain rfl : k = M := by omega
          go_wp2_with fail
          go_returns
          exact ⟨_, gs, rfl, hrr, hbel⟩
  · have hna' : naB a b c = false := by simpa using hna
    obtain ⟨e1, e2⟩ := nsx_no hna'
    rw [e1, e2]
    rw [hna'] at hN
    clear e1 e2 hna hna'
    go_enter Tryd.func19, Tryd.ntmps19
    go_wp2_with fail
    refine (hN _).mono ?_
    rintro e w1 ⟨rfl, rfl⟩
    go_wp2_with fail
    go_returns
    exact ⟨_, [], rfl, RR.nil_ _ _, Below.refl _ _⟩

set_option maxRecDepth 100000 in
set_option maxHeartbeats 4000000 in
theorem specNatural_any (a b c : Int) (w : World) :
    Calls Tryd.prog 20 #[.int .i64 a, .int .i64 b, .int .i64 c] w fun e w' => ∃ v gs, e = .returned (.tuple #[v, .int .i64 (nsc a b c)]) ∧ RR w' w.heap.size v (nsx a b c).length gs (nsx a b c) ∧ Below w.heap.size w w' := by
  obtain ⟨i0, hi, hz0, hz1, hz2⟩ := info_parts info_is
  have hC := fun w => specCountNatural_any a b c w
  unfold cno at hC
  by_cases hna : naB a b c = true
  · obtain ⟨ha, hb, hc⟩ := naB_iff.1 hna
    rw [if_pos hna] at hC
    by_cases hf : 1000 < lcnt a b c
    · obtain ⟨e1, e2⟩ := nsx_full hna hf
      rw [e1, e2]
      generalize lcnt a b c = N at *
      clear e1 e2 hna
      go_enter Tryd.func20, Tryd.ntmps20
      go_wp2_with fail
      refine (hC _).mono ?_
      rintro e w1 ⟨rfl, b1⟩
      go_wp2_with fail
      go_returns
      exact ⟨_, [], rfl, RR.nil_ _ _, b1⟩
    · obtain ⟨e1, e2⟩ := nsx_ok hna hf
      rw [e1, e2]
      have hS := fun w => l21Solve_any a b c w (by omega) (by omega) (by omega) (by omega) (by omega)
      have hG := fun w => specGcdI_any a b w (by omega) (by omega) (by omega) (by omega)
      have hg0 := Int.gcd_pos_of_ne_zero_right a (show b ≠ 0 by omega)
      have hgb := Int.le_of_dvd (show 0 < b by omega) (Int.gcd_dvd_right a b)
      have hN0 : 0 ≤ lcnt a b c := by
        unfold lcnt
        split
        · rename_i h
          have := (nat_facts ha hb h.1).2.1
          have := Int.ediv_nonneg h.2 (show 0 ≤ a / ((Int.gcd a b : Nat) : Int) by omega)
          omega
        · omega
      obtain ⟨x, y, ok, hs, hfa⟩ : ∃ x y ok, slvS a b c = .tuple #[.int .i64 x, .int .i64 y, .bool ok] ∧ (0 < lcnt a b c → b.tdiv (Int.gcd a b : Nat) = lu a b ∧ (1 ≤ lu a b ∧ lu a b ≤ 1000000) ∧ ∀ k : Nat, k ≤ 1000 → (0 ≤ (k : Int) * lu a b ∧ (k : Int) * lu a b ≤ 1000000000) ∧ (0 ≤ x ∧ x ≤ 1000000) ∧ (0 ≤ a * (x + k * lu a b) ∧ a * (x + k * lu a b) ≤ 1001000000000000) ∧ ∃ z, (c - a * (x + k * lu a b)).tdiv b = z ∧ (-1005000000000 ≤ z ∧ z ≤ 1005000000000) ∧ nsf a b c k = (x + k * lu a b, z)) := by
        unfold slvS
        by_cases hd : ((Int.gcd a b : Nat) : Int) ∣ c
        · rw [if_pos hd]
          have n4 := (nat_facts ha hb hd).2.2.2.1
          have f5 := (sol_facts (a := a) (b := b) (c := c) (by omega) (by omega) (by omega) (by omega) (by omega) hd).2.2.2.2.1
          refine ⟨_, _, _, rfl, fun _ => ⟨n4, f5, fun k hk => ?_⟩⟩
          obtain ⟨g1, g2, g3, g4, g5, g6⟩ := ns_step ha hb hc hd hk
          exact ⟨g1, g2, g5, _, g6, by omega, rfl⟩
        · rw [if_neg hd]
          refine ⟨_, _, _, rfl, fun h => ?_⟩
          unfold lcnt at h
          rw [if_neg (fun h => hd h.1)] at h
          omega
      rw [hs] at hS
      obtain ⟨M, hM⟩ : ∃ M : Nat, lcnt a b c = M := ⟨(lcnt a b c).toNat, by omega⟩
      rw [hM] at hC hf hfa ⊢
      rw [Int.toNat_natCast, nsk_len]
      have hM1 : M ≤ 1000 := by omega
      have HFA := hide hfa
      obtain ⟨q, hq, hqb⟩ : ∃ q : Int, b.tdiv (Int.gcd a b : Nat) = q ∧ (0 ≤ q ∧ q ≤ 1000000) := by
        refine ⟨_, rfl, ?_⟩
        rw [Int.tdiv_eq_ediv_of_nonneg (by omega)]
        exact ⟨Int.ediv_nonneg (by omega) (by omega), Int.le_trans (Int.ediv_le_self _ (by omega)) hb.2⟩
      have HQ := hide hq
      generalize hgg : (Int.gcd a b : Nat) = g at *
      have hgz : ¬ (g : Int) = 0 := by omega
      have hwq : IntKind.i64.wrap q = q := IntWalk.i64_in _ (by omega)
      have hq2 := hq
      clear e1 e2 hna hs hM hN0 hfa hgg
      go_enter Tryd.func20, Tryd.ntmps20
      go_wp2_with fail
      refine (hC _).mono ?_
      rintro e w1 ⟨rfl, b1⟩
      go_wp2_with fail
      refine (hS _).mono ?_
      rintro e w2 ⟨rfl, b2⟩
      have B1 : Below w.heap.size w (w1.alloc (.cells #[] 44)) := b1.alloc b1.size _
      have B2 := bstep B1 b2 B1.size
      have hr0 : RR w2 w.heap.size (.slice (some ⟨w1.heap.size, 0, none⟩) 0 0) 0 [] [] := by
        have h0 : Row (w1.alloc (.cells #[] 44)) w1.heap.size 44 1 0 0 (sls []) := Row.lit (n := 0) (cs := #[]) rfl rfl (by simp [maxLen])
        exact ⟨(h0.below b2 (by simp)).own b1.size, rfl, rfl, List.nodup_nil, fun i h => by simp at h, fun b hb => by simp⟩
      have HR0 := hide hr0
      clear hC hS b1 b2 B1 hr0
      go_wp2_with fail
      refine (hG _).mono ?_
      rintro e w3 ⟨rfl, rfl⟩
      go_wp2_with fail
      go_loopw [10, 15] (fun lv iv wr => ∃ (k : Nat) (gs : List Nat), iv = .int .i64 k ∧ k ≤ M ∧ RR wr w.heap.size lv k gs (nsk a b c k) ∧ Below w.heap.size w wr) (fun _ iv _ => M - (intOf iv).toNat)
      case atStart => exact ⟨0, [], rfl, by omega, HR0.out, B2⟩
      case round =>
        clear B2 HR0
        obtain ⟨k, gs, rfl, hk, hrr, hbel⟩ := hrel
        have sr := hbel.size
        by_cases hlt : k < M
        · obtain ⟨f1, _, f3⟩ := HFA.out (by omega)
          obtain ⟨g1, g2, g3, z, gz, g4, g5⟩ := f3 k (by omega)
          have hlu : lu a b = q := by rw [← f1]; exact HQ.out
          rw [hlu] at g1 g3 gz g5
          have hkz : (k : Int) < (M : Int) := by omega
          have HRR := hide hrr
          have HF := hide g5
          have hbz : ¬ b = 0 := by omega
          have s1 : IntKind.i64.wrap ((k : Int) * q) = (k : Int) * q := IntWalk.i64_in _ (by omega)
          have s2 : IntKind.i64.wrap (a * (x + (k : Int) * q)) = a * (x + (k : Int) * q) := IntWalk.i64_in _ (by omega)
          have s3 : IntKind.i64.wrap (c - a * (x + (k : Int) * q)) = c - a * (x + (k : Int) * q) := IntWalk.i64_in _ (by omega)
          have s4 : IntKind.i64.wrap z = z := IntWalk.i64_in _ (by omega)
          clear hrr g5 f1 f3 hlu hq2 hwq
          go_wp2_with (at_builtin; refine wpList_append_lies _ rfl (.tmp 51) (.tmp 69) _ rfl w.heap.size 44 i0 _ 1 24 Tryd.underlying38 hi hz0 hz1 hz2 rfl (by omega) u10 k (sls gs) (by rfl) (own_below (own_below HRR.out.own ((Below.refl _ _).alloc (Nat.le_refl _) _)) ((Below.refl _ _).alloc (Nat.le_refl _) _)) ⟨wr.heap.size + 1, 0, none⟩ 1 1 [.slice (some ⟨wr.heap.size, 0, none⟩) 2 2] (by rfl) (by rfl) (news_new (by simp)) (by simp [Value.oneCell']) (by omega) (by simp only [maxLen]; omega) (by omega) (by simp; omega) (wr.heap.size + 1 + 1) (by simp) ?_; intro g8 c8 w8 hown8 hgrow8 hat8 hlt8)
          have hpush := RR.push (x := x + k * q) (y := z) HRR.out sr rfl hown8 hgrow8 (by simpa using hat8)
          have hbn := ((hbel.alloc sr (.cells #[.int .i64 (x + k * q), .int .i64 z] 2)).alloc (by simp; omega) (.cells #[.slice (some ⟨wr.heap.size, 0, none⟩) 2 2] 44)).grown hgrow8 (by simp; omega) (fun b hb => own_base HRR.out.own b hb)
          have HP := hide hpush
          have HB := hide hbn
          clear hpush hbn hown8 hgrow8 hat8 gz
          go_wp2_with fail
          go_roundw
          case rel => exact ⟨k + 1, gs ++ [wr.heap.size], by go_num, by omega, by rw [nsk_succ, HF.out]; exact HP.out, HB.out⟩
          case measure => simp [intOf]; omega
        · obtain rfl : k = M := by omega
          go_wp2_with fail
          go_returns
          exact ⟨_, gs, rfl, hrr, hbel⟩
  · have hna' : naB a b c = false := by simpa using hna
    obtain ⟨e1, e2⟩ := nsx_no hna'
    rw [e1, e2]
    rw [if_neg hna] at hC
    clear e1 e2 hna hna'
    go_enter Tryd.func20, Tryd.ntmps20
    go_wp2_with fail
    refine (hC _).mono ?_
    rintro e w1 ⟨rfl, b1⟩
    go_wp2_with fail
    go_returns
    exact ⟨_, [], rfl, RR.nil_ _ _, b1⟩

end Go.Proofs.YtikpiigamnpafaaDoor
