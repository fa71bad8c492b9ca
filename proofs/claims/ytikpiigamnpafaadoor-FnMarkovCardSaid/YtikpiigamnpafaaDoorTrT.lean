/- TripleText: the program's and the reference's; the law. -/
import Derived.Test.YtikpiigamnpafaaDoorDecS
import Derived.Lib.QuietBelow
namespace Go.Proofs.YtikpiigamnpafaaDoor
open Go.RowKit Go.Sort

/-- The text of a triple. -/
def tlx (X Y Z : Int) : List UInt8 := if vtB X Y Z = true then [40] ++ (Lib.itoa X ++ ([44, 32] ++ (Lib.itoa Y ++ ([44, 32] ++ (Lib.itoa Z ++ [41]))))) else []
theorem dcs_three (X Y Z : Int) : dcs [X, Y, Z] ⟨#[44, 32]⟩ = Lib.itoa X ++ ([44, 32] ++ (Lib.itoa Y ++ ([44, 32] ++ Lib.itoa Z))) := by
  unfold dcs
  show Lib.join [Lib.itoa X, Lib.itoa Y, Lib.itoa Z] [44, 32] = _
  rw [Lib.join_cons]
  simp [Lib.joinTail]
theorem itoa_len' (n : Int) (hn : -9223372036854775808 ≤ n ∧ n ≤ 9223372036854775807) : (Lib.itoa n).length ≤ 21 := by
  have h1 : (nd n.natAbs).length ≤ 20 := nd_len 20 _ (by omega)
  rw [nd_itoa]
  split
  · simp
  · split
    · simp; omega
    · omega
theorem size_cat' (s t : ByteArray) : (s ++ t).size = s.size + t.size := by
  show (s ++ t).data.size = s.data.size + t.data.size
  simp

set_option maxHeartbeats 1000000 in
theorem implTripleText_any (X Y Z : Int) (w : World) (ht : Tab w) :
    Calls Tryd.prog 11 #[.agg #[.int .i64 X, .int .i64 Y, .int .i64 Z]] w fun e w' => e = .returned (str (tlx X Y Z)) ∧ Below w.heap.size w w' := by
  have hV := implValidTriple_any X Y Z
  by_cases hv : vtB X Y Z = true
  · obtain ⟨⟨r1, r2, r3, r4⟩, _⟩ := vtB_iff.1 hv
    have hx := itoa_len' X (by omega)
    have hy := itoa_len' Y (by omega)
    have hz := itoa_len' Z (by omega)
    have e3 := dcs_three X Y Z
    have hlen : (dcs [X, Y, Z] ⟨#[44, 32]⟩).length ≤ 67 := by rw [e3]; simp; omega
    have ex : tlx X Y Z = [40] ++ (dcs [X, Y, Z] ⟨#[44, 32]⟩ ++ [41]) := by unfold tlx; rw [if_pos hv, e3]; simp
    rw [ex]
    rw [hv] at hV
    have hD := fun g c w hr hl ht => implDecimals_any g 3 c [X, Y, Z] ⟨#[44, 32]⟩ w hr (by omega) (by intro z hz; simp at hz; omega) hl ht
    generalize dcs [X, Y, Z] ⟨#[44, 32]⟩ = L at *
    obtain ⟨S, hS⟩ : ∃ S : ByteArray, S = ⟨L.toArray⟩ := ⟨_, rfl⟩
    have hDS := fun g c w hr ht => hD g c w hr (by omega) ht
    rw [show str L = .string S by rw [hS]; rfl] at hDS
    have hsz : S.size ≤ 67 := by rw [hS]; show L.toArray.size ≤ 67; rw [List.size_toArray]; exact hlen
    have hs3 : ¬ IntKind.i64.max < ((ByteArray.size ⟨#[40]⟩ + S.size : Nat) : Int) := by
      show ¬ (9223372036854775807 : Int) < ((1 + S.size : Nat) : Int)
      omega
    have hs4 : ¬ (9223372036854775807 : Int) < 1 + (S.size : Int) := by omega
    have y1 : ((⟨#[40]⟩ : ByteArray) ++ S).size ≤ 68 := by rw [size_cat']; show 1 + S.size ≤ 68; omega
    have y2 : ¬ (9223372036854775807 : Int) < ((((⟨#[40]⟩ : ByteArray) ++ S).size + ByteArray.size ⟨#[41]⟩ : Nat) : Int) := by
      show ¬ (9223372036854775807 : Int) < ((((⟨#[40]⟩ : ByteArray) ++ S).size + 1 : Nat) : Int)
      omega
    have y3 : ¬ (9223372036854775807 : Int) < ((((⟨#[40]⟩ : ByteArray) ++ S).size : Nat) : Int) + 1 := by omega
    have y4 : ((⟨#[40]⟩ : ByteArray) ++ S).size = 1 + S.size := by rw [size_cat']; rfl
    have y5 : ¬ (9223372036854775807 : Int) < 1 + (S.size : Int) + 1 := by omega
    have HS := hide hS
    have H4 := hide y4
    clear hv ex e3 hlen hD hS hx hy hz r1 r2 r3 r4 y4
    go_enter Tryd.func11, Tryd.ntmps11
    go_wp2_with fail
    refine (hV _).mono ?_
    rintro e w1 ⟨rfl, b1⟩
    obtain ⟨c1, _, z1, HB⟩ := (Blk.new w 27 #[.int .i64 X, .int .i64 Y, .int .i64 Z]).after b1 (by simp)
    have x0 := c1 0
    have x1 := c1 1
    have x2 := c1 2
    have B1 : Below w.heap.size w w1 := bstep (by go_grown) b1 (by simp)
    have t1 := ht.below B1
    clear c1 b1
    go_wp2_with fail
    refine (hDS _ 3 _ (Row.lit (n := 3) (cs := #[.int .i64 X, .int .i64 Y, .int .i64 Z]) rfl rfl (by simp [maxLen])) (t1.below (by go_grown))).mono ?_
    rintro e w2 ⟨rfl, b2⟩
    go_wp2_with fail
    go_ret
    refine ⟨?_, bstep B1 (bstep (by go_grown) b2 (by simp)) B1.size⟩
    rw [HS.out]
    refine congrArg (fun b => Ending.returned (Value.string b)) ?_
    rw [show (⟨#[40]⟩ : ByteArray) = ⟨[40].toArray⟩ from rfl, show (⟨#[41]⟩ : ByteArray) = ⟨[41].toArray⟩ from rfl, cat_str, cat_str, List.append_assoc]
    rfl
  · have hv' : vtB X Y Z = false := by simpa using hv
    have ex : tlx X Y Z = [] := if_neg hv
    rw [ex]
    rw [hv'] at hV
    clear hv ex hv'
    go_enter Tryd.func11, Tryd.ntmps11
    go_wp2_with fail
    refine (hV _).mono ?_
    rintro e w1 ⟨rfl, b1⟩
    go_wp2_with fail
    go_ret
    exact ⟨rfl, bstep (by go_grown) b1 (by simp)⟩

set_option maxHeartbeats 1000000 in
theorem specTripleText_any (X Y Z : Int) (w : World) :
    Calls Tryd.prog 9 #[.agg #[.int .i64 X, .int .i64 Y, .int .i64 Z]] w fun e w' => e = .returned (str (tlx X Y Z)) ∧ Below w.heap.size w w' := by
  have hV := l22Ok_any X Y Z
  have mixed : Tryd.prog.follows .mixedOrders = true := by kernel_rfl
  by_cases hv : vtB X Y Z = true
  · obtain ⟨⟨r1, r2, r3, r4⟩, _⟩ := vtB_iff.1 hv
    have hx := itoa_len' X (by omega)
    have hy := itoa_len' Y (by omega)
    have hz := itoa_len' Z (by omega)
    have ex : tlx X Y Z = [40] ++ (Lib.itoa X ++ ([44, 32] ++ (Lib.itoa Y ++ ([44, 32] ++ (Lib.itoa Z ++ [41]))))) := by unfold tlx; rw [if_pos hv]
    rw [ex]
    rw [hv] at hV
    have hA := fun w => l01Dec_any X w (by omega)
    have hB := fun w => l01Dec_any Y w (by omega)
    have hC := fun w => l01Dec_any Z w (by omega)
    unfold str at hA hB hC
    obtain ⟨SA, eA⟩ : ∃ S : ByteArray, S = ⟨(Lib.itoa X).toArray⟩ := ⟨_, rfl⟩
    obtain ⟨SB, eB⟩ : ∃ S : ByteArray, S = ⟨(Lib.itoa Y).toArray⟩ := ⟨_, rfl⟩
    obtain ⟨SC, eC⟩ : ∃ S : ByteArray, S = ⟨(Lib.itoa Z).toArray⟩ := ⟨_, rfl⟩
    rw [← eA] at hA
    rw [← eB] at hB
    rw [← eC] at hC
    have sA : SA.size ≤ 21 := by rw [eA]; show (Lib.itoa X).toArray.size ≤ 21; rw [List.size_toArray]; exact hx
    have sB : SB.size ≤ 21 := by rw [eB]; show (Lib.itoa Y).toArray.size ≤ 21; rw [List.size_toArray]; exact hy
    have sC : SC.size ≤ 21 := by rw [eC]; show (Lib.itoa Z).toArray.size ≤ 21; rw [List.size_toArray]; exact hz
    have m1 : ¬ (9223372036854775807 : Int) < 1 + (SA.size : Int) := by omega
    have m2 : ¬ (9223372036854775807 : Int) < 1 + (SA.size : Int) + 2 := by omega
    have m3 : ¬ (9223372036854775807 : Int) < 1 + (SA.size : Int) + 2 + (SB.size : Int) := by omega
    have m4 : ¬ (9223372036854775807 : Int) < 1 + (SA.size : Int) + 2 + (SB.size : Int) + 2 := by omega
    have m5 : ¬ (9223372036854775807 : Int) < 1 + (SA.size : Int) + 2 + (SB.size : Int) + 2 + (SC.size : Int) := by omega
    have m6 : ¬ (9223372036854775807 : Int) < 1 + (SA.size : Int) + 2 + (SB.size : Int) + 2 + (SC.size : Int) + 1 := by omega
    have n1 : ¬ 9223372036854775807 < 1 + SA.size := by omega
    have n2 : ¬ 9223372036854775807 < 1 + SA.size + 2 := by omega
    have n3 : ¬ 9223372036854775807 < 1 + SA.size + 2 + SB.size := by omega
    have n4 : ¬ 9223372036854775807 < 1 + SA.size + 2 + SB.size + 2 := by omega
    have n5 : ¬ 9223372036854775807 < 1 + SA.size + 2 + SB.size + 2 + SC.size := by omega
    have n6 : ¬ 9223372036854775807 < 1 + SA.size + 2 + SB.size + 2 + SC.size + 1 := by omega
    have HA := hide eA
    have HB := hide eB
    have HC := hide eC
    clear hv ex eA eB eC hx hy hz r1 r2 r3 r4
    go_enter Tryd.func9, Tryd.ntmps9
    go_wp2_with fail
    refine (hV _).mono ?_
    rintro e w1 ⟨rfl, b1⟩
    obtain ⟨c1, _, z1, HB1⟩ := (Blk.new w 27 #[.int .i64 X, .int .i64 Y, .int .i64 Z]).after b1 (by simp)
    have x0 : ∀ d os, (grow (redrawn w1 d) os).cell? ⟨w.heap.size, 0, none⟩ = some (.int .i64 X) := fun d os => cell_regrown (c1 0) d os
    have x1 : ∀ d os, (grow (redrawn w1 d) os).cell? ⟨w.heap.size, 1, none⟩ = some (.int .i64 Y) := fun d os => cell_regrown (c1 1) d os
    have x2 : ∀ d os, (grow (redrawn w1 d) os).cell? ⟨w.heap.size, 2, none⟩ = some (.int .i64 Z) := fun d os => cell_regrown (c1 2) d os
    have B1 : Below w.heap.size w w1 := bstep (by go_grown) b1 (by simp)
    have cA : ∀ d os, Calls Tryd.prog 33 #[.int .i64 X] (grow (redrawn w1 d) os) fun e w'' => e = .returned (.string SA) ∧ ∃ p : Regrown, w'' = grow (redrawn w1 p.d) p.os := fun d os => Calls.regrown_of (hA _)
    have cB : ∀ d os, Calls Tryd.prog 33 #[.int .i64 Y] (grow (redrawn w1 d) os) fun e w'' => e = .returned (.string SB) ∧ ∃ p : Regrown, w'' = grow (redrawn w1 p.d) p.os := fun d os => Calls.regrown_of (hB _)
    have cC : ∀ d os, Calls Tryd.prog 33 #[.int .i64 Z] (grow (redrawn w1 d) os) fun e w'' => e = .returned (.string SC) ∧ ∃ p : Regrown, w'' = grow (redrawn w1 p.d) p.os := fun d os => Calls.regrown_of (hC _)
    clear c1 b1 hA hB hC
    go_wp2_with fail
    refine wp_region_quiet_below (by assumption) (by kernel_rfl) ?_
    repeat (quiet_step (first | (with_reducible exact cA _ _) | (with_reducible exact cB _ _) | (with_reducible exact cC _ _)))
    refine wpQuiet_nil ?_
    intro _ hw'
    obtain ⟨⟨dq, osq⟩, hw''⟩ := hw'
    subst hw''
    go_wp2
    go_ret
    refine ⟨?_, bstep B1 (below_regrown w1 dq osq) B1.size⟩
    rw [HA.out, HB.out, HC.out]
    refine congrArg (fun b => Ending.returned (Value.string b)) ?_
    rw [show (⟨#[40]⟩ : ByteArray) = ⟨[40].toArray⟩ from rfl, show (⟨#[41]⟩ : ByteArray) = ⟨[41].toArray⟩ from rfl, show (⟨#[44, 32]⟩ : ByteArray) = ⟨[44, 32].toArray⟩ from rfl]
    simp only [cat_str, List.append_assoc]
    rfl
  · have hv' : vtB X Y Z = false := by simpa using hv
    have ex : tlx X Y Z = [] := if_neg hv
    rw [ex]
    rw [hv'] at hV
    clear hv ex hv'
    go_enter Tryd.func9, Tryd.ntmps9
    go_wp2_with fail
    refine (hV _).mono ?_
    rintro e w1 ⟨rfl, b1⟩
    go_wp2_with fail
    go_ret
    exact ⟨rfl, bstep (by go_grown) b1 (by simp)⟩

theorem toTriple_any (L C S : Int) (w : World) :
    Calls Tryd.prog 10 #[.agg #[.int .i64 L, .int .i64 C, .int .i64 S]] w fun e w' => e = .returned (.agg #[.int .i64 L, .int .i64 C, .int .i64 S]) ∧ Below w.heap.size w w' := by
  go_enter Tryd.func10, Tryd.ntmps10
  go_wp2
  exact bodyPost_ret (v := .agg #[.int .i64 L, .int .i64 C, .int .i64 S]) (by simp [results, Tryd.results10, go_sem]) rfl ⟨rfl, by go_grown⟩

theorem law_TripleText (X Y Z : Int) (w : World) (ht : Tab w) :
    Calls Tryd.prog 4 #[.agg #[.int .i64 X, .int .i64 Y, .int .i64 Z]] w fun e w' => e = .returned (.bool true) ∧ Below w.heap.size w w' := by
  have hS := specTripleText_any X Y Z
  have hI := implTripleText_any X Y Z
  obtain ⟨S, eS⟩ : ∃ S : ByteArray, str (tlx X Y Z) = .string S := ⟨_, rfl⟩
  rw [eS] at hS hI
  have q := bn_self S
  clear eS
  go_enter Tryd.func4, Tryd.ntmps4
  go_wp2_with fail
  refine (toTriple_any _ _ _ _).mono ?_
  rintro e w1 ⟨rfl, b1⟩
  have B1 : Below w.heap.size w w1 := bstep (by go_grown) b1 (by simp)
  obtain ⟨c1, _, z1, HB⟩ := (Blk.new w 25 #[.int .i64 X, .int .i64 Y, .int .i64 Z]).after b1 (by simp)
  go_wp2_with fail
  refine (hS _).mono ?_
  rintro e w2 ⟨rfl, b2⟩
  have B2 := bstep B1 b2 B1.size
  obtain ⟨c2, _, z2, HB2⟩ := HB.out.after b2 z1
  have x0 := c2 0
  have x1 := c2 1
  have x2 := c2 2
  clear c1 c2
  go_wp2_with fail
  refine (toTriple_any _ _ _ _).mono ?_
  rintro e w3 ⟨rfl, b3⟩
  have B3 := bstep B2 b3 B2.size
  go_wp2_with fail
  refine (hI _ (ht.below B3)).mono ?_
  rintro e w4 ⟨rfl, b4⟩
  go_wp2_with fail
  go_ret
  exact ⟨rfl, bstep B3 b4 B3.size⟩

end Go.Proofs.YtikpiigamnpafaaDoor
