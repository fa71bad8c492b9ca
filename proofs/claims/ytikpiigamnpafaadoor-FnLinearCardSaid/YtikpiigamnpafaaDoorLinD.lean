/- The draw of a linear equation. -/
import Derived.Test.YtikpiigamnpafaaDoorSrc3
import Derived.Deep.DeepCutAuto
namespace Go.Proofs.YtikpiigamnpafaaDoor
open Go.RowKit
set_option maxRecDepth 100000 in
set_option maxHeartbeats 4000000 in
theorem l21Draw_any (g B k : Nat) (w : World) (h : Src w g B (k + 40)) :
    Calls Tryd.prog 39 #[.pointer (some ⟨g, 0, none⟩)] w fun e w' => ∃ a b c, e = .returned (.tuple #[.int .i64 a, .int .i64 b, .int .i64 c]) ∧ Src w' g B k ∧ w.grownBy w' (some g) := by
  go_enter Tryd.func39, Tryd.ntmps39
  go_wp2_with fail
  refine (pick_any g B (k + 38) _ _ h).mono ?_
  rintro e w1 ⟨a, rfl, a0, a1, hs1, hg1⟩
  have a2 : a < 60 := by omega
  go_wp2_with fail
  refine (pick_any g B (k + 36) _ _ hs1).mono ?_
  rintro e w2 ⟨b, rfl, b0, b1, hs2, hg2⟩
  have b2 : b < 60 := by omega
  go_wp2_with fail
  refine (pick_any g B (k + 34) _ _ hs2).mono ?_
  rintro e w3 ⟨c, rfl, c0, c1, hs3, hg3⟩
  have c2 : c < 600 := by omega
  have G3 := gtrans (gtrans hg1 hg2) hg3
  clear hg1 hg2 hg3 hs1 hs2 h
  go_wp2_with fail
  refine (one_any g B (k + 32) _ _ hs3).mono ?_
  rintro e w4 ⟨b4, rfl, hs4, hg4⟩
  go_upto_if 19 with fail
  go_cut [5, 6, 7] (fun x y z wc => ∃ a b c, x = .int .i64 a ∧ y = .int .i64 b ∧ z = .int .i64 c ∧ Src wc g B (k + 30) ∧ w.grownBy wc (some g))
  case first =>
    cases b4
    · go_wp2_with fail
      go_meet
      case rel => exact ⟨_, _, _, rfl, rfl, rfl, hs4.less (by omega), gtrans G3 hg4⟩
    · go_wp2_with fail
      refine (pick_any g B (k + 30) _ _ hs4).mono ?_
      rintro e w5 ⟨u, rfl, u0, u1, hs5, hg5⟩
      go_wp2_with fail
      go_meet
      case rel => exact ⟨_, _, _, rfl, rfl, rfl, hs5.less (by omega), gtrans (gtrans G3 hg4) hg5⟩
  case rest =>
    clear hs3 hs4 G3 hg4
    obtain ⟨a, b, c, rfl, rfl, rfl, hs, hg⟩ := hcut
    go_wp2_with fail
    refine (one_any g B (k + 28) _ _ hs).mono ?_
    rintro e w4 ⟨b4, rfl, hs4, hg4⟩
    go_upto_if 33 with fail
    go_cut [5] (fun x wc => ∃ a, x = .int .i64 a ∧ Src wc g B (k + 28) ∧ w.grownBy wc (some g))
    case first =>
      cases b4 <;> (go_wp2_with fail; go_meet; case rel => exact ⟨_, rfl, hs4, gtrans hg hg4⟩)
    case rest =>
      clear hs hs4 hg hg4
      obtain ⟨a, rfl, hs, hg⟩ := hcut
      go_wp2_with fail
      refine (one_any g B (k + 26) _ _ hs).mono ?_
      rintro e w4 ⟨b4, rfl, hs4, hg4⟩
      go_upto_if 37 with fail
      go_cut [6] (fun x wc => ∃ a, x = .int .i64 a ∧ Src wc g B (k + 26) ∧ w.grownBy wc (some g))
      case first =>
        cases b4 <;> (go_wp2_with fail; go_meet; case rel => exact ⟨_, rfl, hs4, gtrans hg hg4⟩)
      case rest =>
        clear hs hs4 hg hg4
        obtain ⟨b, rfl, hs, hg⟩ := hcut
        go_wp2_with fail
        refine (pick_any g B (k + 24) _ _ hs).mono ?_
        rintro e w4 ⟨u, rfl, u0, u1, hs4, hg4⟩
        go_wp2_with fail
        all_goals
          first
          | (refine (among_new g B (k + 22) _ _ _ hs4 (by rfl) (by rfl) (by omega) (by omega)).mono ?_
             rintro e w5 ⟨v, rfl, hs5, hg5⟩
             go_wp2
             go_returns
             exact ⟨_, _, _, rfl, hs5.less (by omega), gtrans (gtrans hg hg4) hg5⟩)
          | (go_returns
             exact ⟨_, _, _, rfl, hs4.less (by omega), gtrans hg hg4⟩)
end Go.Proofs.YtikpiigamnpafaaDoor
