/- l22All: the reference's list of all triples up to a limit is the tree's, in some order. -/
import Derived.Test.YtjmllmadoelioaaMkUp
import Derived.Test.YtjmllmadoelioaaTree2
namespace Go.Proofs.Ytjmllmadoelioaa
open Go.RowKit

set_option maxRecDepth 100000 in
set_option maxHeartbeats 1000000 in
theorem l22All_few (M : Int) (w : World) (hM : M < 5) :
    Calls Try.prog 55 #[.int .i64 M] w fun e w' => ∃ g c ts, e = .returned (.slice (some ⟨g, 0, none⟩) ts.length c) ∧ w.heap.size ≤ g ∧ Row w' g 24 3 ts.length c (cs3 ts) ∧ ts.Perm (allT M) ∧ Below w.heap.size w w' := by
  obtain ⟨i0, hi, hz0, hz1, hz2⟩ := info_parts info_triple
  rw [allT_few hM]
  by_cases h2 : 2 ≤ M
  · have hs : small M = [⟨1, 1, 1⟩, ⟨1, 1, 2⟩] := by simp [small, h2]
    rw [hs]
    clear hs
    have hR : Row (w.alloc (.cells #[.int .i64 1, .int .i64 1, .int .i64 1] 24)) w.heap.size 24 3 1 1 (cs3 [⟨1, 1, 1⟩]) := Row.lit rfl (by rfl) (by simp [maxLen])
    have HR := hide hR
    clear hR
    go_enter Try.func55, Try.ntmps55
    go_wp2_with (at_builtin; refine wpList_append_lies _ rfl (.tmp 13) (.tmp 15) _ rfl 0 24 i0 _ 3 24 Try.underlying38 hi hz0 hz1 hz2 rfl (by omega) (.slice (some ⟨w.heap.size, 0, none⟩) 1 1) 1 (cs3 [⟨1, 1, 1⟩]) (by rfl) ((HR.out.alloc _).own (Nat.zero_le _)) ⟨w.heap.size + 1, 0, none⟩ 1 1 (cs3 [⟨1, 1, 2⟩]) (by rfl) (by rfl) (news_new (by simp)) (one3 _) (by omega) (by simp only [maxLen]; omega) (by omega) (Nat.zero_le _) (w.heap.size + 1 + 1) (by simp) ?_; intro g1 c1 w1 hown1 hgrow1 hat1 hlt1)
    go_ret
    have hg : w.heap.size ≤ g1 := by
      rcases hat1 with h | h
      · simp [Value.ownBlock] at h; omega
      · omega
    exact ⟨g1, c1, [⟨1, 1, 1⟩, ⟨1, 1, 2⟩], rfl, hg, (Row.of_own hown1).1, List.Perm.refl _, (((Below.refl _ _).alloc (Nat.le_refl _) _).alloc (by simp) _).grown hgrow1 (by simp; omega) (fun k h => by simp [Value.ownBlock] at h; omega)⟩
  · have hs : small M = [⟨1, 1, 1⟩] := by simp [small, h2]
    rw [hs]
    clear hs
    go_enter Try.func55, Try.ntmps55
    go_wp2
    go_ret
    exact ⟨w.heap.size, 1, [⟨1, 1, 1⟩], rfl, Nat.le_refl _, Row.lit rfl (by rfl) (by simp [maxLen]), (by first | exact List.Perm.refl _ | rfl), by go_grown⟩

theorem kids_zero (M : Int) (t : T3) : kids M t 0 = [] := rfl
theorem kids_one (M : Int) (t : T3) : kids M t 1 = kids M t 0 ++ (if t.left.z ≤ M then [t.left] else []) := by
  unfold kids
  by_cases h : t.left.z ≤ M <;> simp [h]
theorem kids_two (M : Int) (t : T3) : kids M t 2 = kids M t 1 ++ (if t.right.z ≤ M then [t.right] else []) := by
  unfold kids
  by_cases h : t.right.z ≤ M <;> by_cases h' : t.left.z ≤ M <;> simp [h, h']

set_option maxRecDepth 100000 in
set_option maxHeartbeats 4000000 in
theorem l22All_many (M : Int) (w : World) (h5 : 5 ≤ M) (hM : M ≤ 1000000) :
    Calls Try.prog 55 #[.int .i64 M] w fun e w' => ∃ g c ts, e = .returned (.slice (some ⟨g, 0, none⟩) ts.length c) ∧ w.heap.size ≤ g ∧ Row w' g 24 3 ts.length c (cs3 ts) ∧ ts.Perm (allT M) ∧ Below w.heap.size w w' := by
  obtain ⟨i0, hi, hz0, hz1, hz2⟩ := info_parts info_triple
  have hs : small M = [⟨1, 1, 1⟩, ⟨1, 1, 2⟩] := by simp [small]; omega
  have hst := Lev.start h5
  rw [hs] at hst
  have HST := hide hst
  clear hs hst
  have hR : Row (w.alloc (.cells #[.int .i64 1, .int .i64 1, .int .i64 1] 24)) w.heap.size 24 3 1 1 (cs3 [⟨1, 1, 1⟩]) := Row.lit rfl (by rfl) (by simp [maxLen])
  have HR := hide hR
  clear hR
  go_enter Try.func55, Try.ntmps55
  go_wp2_with (first
    | (at_builtin; refine wpList_append_lies _ rfl (.tmp 13) (.tmp 15) _ rfl 0 24 i0 _ 3 24 Try.underlying38 hi hz0 hz1 hz2 rfl (by omega) (.slice (some ⟨w.heap.size, 0, none⟩) 1 1) 1 (cs3 [⟨1, 1, 1⟩]) (by rfl) ((HR.out.alloc _).own (Nat.zero_le _)) ⟨w.heap.size + 1, 0, none⟩ 1 1 (cs3 [⟨1, 1, 2⟩]) (by rfl) (by rfl) (news_new (by simp)) (one3 _) (by omega) (by simp only [maxLen]; omega) (by omega) (Nat.zero_le _) (w.heap.size + 1 + 1) (by simp) ?_; intro g1 c1 w1 hown1 hgrow1 hat1 hlt1)
    | (at_builtin; refine wpList_append_lies _ rfl (.tmp 22) (.tmp 24) _ rfl 0 24 i0 _ 3 24 Try.underlying38 hi hz0 hz1 hz2 rfl (by omega) (.slice (some ⟨g1, 0, none⟩) 2 c1) 2 (cs3 [⟨1, 1, 1⟩, ⟨1, 1, 2⟩]) (by rfl) (hown1.alloc _) ⟨w1.heap.size, 0, none⟩ 1 1 (cs3 [⟨1, 2, 5⟩]) (by rfl) (by rfl) (news_new (by simp)) (one3 _) (by omega) (by simp only [maxLen]; omega) (by omega) (Nat.zero_le _) (w1.heap.size + 1) (by simp) ?_; intro g2 c2 w2 hown2 hgrow2 hat2 hlt2))
  have hg1 : w.heap.size ≤ g1 := by
    rcases hat1 with h | h
    · simp [Value.ownBlock] at h; omega
    · omega
  have hl1 : Below w.heap.size w w1 := (((Below.refl _ _).alloc (Nat.le_refl _) _).alloc (by simp) _).grown hgrow1 (by simp; omega) (fun k h => by simp [Value.ownBlock] at h; omega)
  have hg2 : w.heap.size ≤ g2 := by
    have := hl1.size
    rcases hat2 with h | h
    · simp [Value.ownBlock] at h; omega
    · omega
  have hl2 : Below w.heap.size w w2 := (hl1.alloc hl1.size _).grown hgrow2 (by have := hl1.size; simp; omega) (fun k h => by simp [Value.ownBlock] at h; omega)
  have R2 : Hid (Row w2 g2 24 3 3 c2 (cs3 [⟨1, 1, 1⟩, ⟨1, 1, 2⟩, ⟨1, 2, 5⟩])) := hide (Row.of_own hown2).1
  clear hown1 hown2 hgrow1 hgrow2 hat1 hat2 hlt1 hlt2
  go_loopw [3, 5] (fun v i wr => ∃ (L : List T3) (k g c : Nat), v = .slice (some ⟨g, 0, none⟩) L.length c ∧ i = .int .i64 k ∧ w.heap.size ≤ g ∧ Row wr g 24 3 L.length c (cs3 L) ∧ Lev M L k ∧ Below w.heap.size w wr) (fun _ i _ => (allT M).length - (intOf i).toNat)
  case atStart => exact ⟨[⟨1, 1, 1⟩, ⟨1, 1, 2⟩, ⟨1, 2, 5⟩], 2, g2, c2, rfl, rfl, hg2, R2.out, HST.out, hl2⟩
  case round =>
    obtain ⟨L, k, g, c, rfl, rfl, hg, hL, hv, hbel⟩ := hrel
    have hLl := hv.len hM
    have hAl := allT_len M
    have hk := hv.1
    have HV := hide hv
    have HL := hide hL
    clear hv hL
    by_cases hlt : k < L.length
    · obtain ⟨wo, rfl⟩ : ∃ wo : World, wo = wr := ⟨_, rfl⟩
      have ht := HV.out.2.2 L[k] (by rw [List.drop_eq_getElem_cons hlt]; exact List.mem_cons_self)
      obtain ⟨t, hte⟩ : ∃ t, L[k] = t := ⟨_, rfl⟩
      rw [hte] at ht
      have HE := hide hte
      have HT := hide ht
      clear hte ht
      have HB3 : Hid (0 ≤ t.x ∧ t.x ≤ 1000000000 ∧ 0 ≤ t.y ∧ t.y ≤ 1000000000 ∧ 0 ≤ t.z ∧ t.z ≤ 1000000000) := hide (by have := HT.out; unfold T3.Up at this; omega)
      go_wp2_with fail
      go_loopw [3, 6] (fun v j wr => ∃ (q g c : Nat), v = .slice (some ⟨g, 0, none⟩) (L ++ kids M t q).length c ∧ q ≤ 2 ∧ j = .int .i64 q ∧ w.heap.size ≤ g ∧ Row wr g 24 3 (L ++ kids M t q).length c (cs3 (L ++ kids M t q)) ∧ Below w.heap.size w wr) (fun _ j _ => 2 - (intOf j).toNat)
      case atStart => exact ⟨0, g, c, by rw [kids_zero, List.append_nil], by omega, rfl, hg, by rw [kids_zero, List.append_nil]; exact HL.out, hbel⟩
      case round =>
        clear HL
        obtain ⟨q, g, c, rfl, hq, rfl, hg, hrow, hbel⟩ := hrel
        have sz := hbel.size
        rcases (show q = 0 ∨ q = 1 ∨ q = 2 from by omega) with rfl | rfl | rfl
        · have hR := hrow
          rw [List.length_append] at hR ⊢
          obtain ⟨a0, a1, a2⟩ := cs3_at (ts := L ++ kids M t 0) (i := k) (by simp; omega)
          rw [List.getElem_append_left hlt, HE.out] at a0 a1 a2
          have c0 := hR.cell a0
          have c1 := hR.cell a1
          have c2 := hR.cell a2
          have hcap := hR.cap_.1
          have hkl := kids_le M t 0
          have HKS := hide (kids_one M t)
          obtain ⟨ks, hks⟩ : ∃ ks, kids M t 0 = ks := ⟨_, rfl⟩
          have HKS := hide (hks ▸ kids_one M t)
          rw [hks] at hR hkl ⊢
          have HR := hide hR
          clear hrow hR a0 a1 a2 hks
          by_cases hz : 3 * t.x * t.z - t.y ≤ M
          · have HZ : Hid (kids M t 1 = ks ++ [t.left]) := hide (by rw [HKS.out, if_pos (show t.left.z ≤ M from hz)])
            go_wp2_with fail
            refine (l22Child_any false t.x t.y t.z _ HB3.out).mono ?_
            rintro e w3 ⟨rfl, hb3⟩
            simp only [fst, snd]
            have RW3 := hide (HR.out.below hb3 HR.out.lt)
            have hl3 : Below w.heap.size w w3 := hbel.trans (hb3.mono hbel.size)
            have hlg3 := RW3.out.lt
            go_wp2_with (at_builtin; refine wpList_append_lies _ rfl (.tmp 51) (.tmp 53) _ rfl 0 24 i0 _ 3 24 Try.underlying38 hi hz0 hz1 hz2 rfl (by omega) (.slice (some ⟨g, 0, none⟩) (L.length + ks.length) c) (L.length + ks.length) (cs3 (L ++ ks)) (by rfl) (Row.own (Row.alloc (Row.alloc RW3.out _) _) (Nat.zero_le _)) ⟨w3.heap.size + 1, 0, none⟩ 1 1 (cs3 [t.left]) (by rfl) (by rfl) (news_new (by simp)) (one3 _) (by omega) (by simp only [maxLen]; omega) (by omega) (Nat.zero_le _) (w3.heap.size + 1 + 1) (by simp) ?_; intro g4 c4 w4 hown4 hgrow4 hat4 hlt4)
            go_roundw
            case rel =>
              have hg4 : w.heap.size ≤ g4 := by
                have := hl3.size
                rcases hat4 with h | h
                · simp [Value.ownBlock] at h; omega
                · omega
              refine ⟨1, g4, c4, ?_, by omega, rfl, hg4, ?_, ((hl3.alloc hl3.size _).alloc (by have := hl3.size; simp; omega) _).grown hgrow4 (by have := hl3.size; simp; omega) (fun k h => by simp [Value.ownBlock] at h; omega)⟩
              · rw [HZ.out]; simp; omega
              · have hh := (Row.of_own hown4).1
                rw [← cs3_append] at hh
                rw [HZ.out, ← List.append_assoc, List.length_append, List.length_append]
                exact hh
            case measure => simp [intOf]
          · have HZ : Hid (kids M t 1 = ks) := hide (by rw [HKS.out, if_neg (show ¬ t.left.z ≤ M from hz), List.append_nil])
            have hz' : M < 3 * t.x * t.z - t.y := by omega
            clear hz
            go_wp2_with fail
            refine (l22Child_any false t.x t.y t.z _ HB3.out).mono ?_
            rintro e w3 ⟨rfl, hb3⟩
            simp only [fst, snd]
            have RW3 := hide (HR.out.below hb3 HR.out.lt)
            have hl3 : Below w.heap.size w w3 := hbel.trans (hb3.mono hbel.size)
            have hlg3 := RW3.out.lt
            go_wp2
            go_roundw
            case rel =>
              refine ⟨1, g, c, by rw [HZ.out, List.length_append], by omega, rfl, hg, ?_, hl3.alloc hl3.size _⟩
              rw [HZ.out, List.length_append]
              exact RW3.out.alloc _
            case measure => simp [intOf]
        · have hR := hrow
          rw [List.length_append] at hR ⊢
          obtain ⟨a0, a1, a2⟩ := cs3_at (ts := L ++ kids M t 1) (i := k) (by simp; omega)
          rw [List.getElem_append_left hlt, HE.out] at a0 a1 a2
          have c0 := hR.cell a0
          have c1 := hR.cell a1
          have c2 := hR.cell a2
          have hcap := hR.cap_.1
          have hkl := kids_le M t 1
          have HKS := hide (kids_two M t)
          obtain ⟨ks, hks⟩ : ∃ ks, kids M t 1 = ks := ⟨_, rfl⟩
          have HKS := hide (hks ▸ kids_two M t)
          rw [hks] at hR hkl ⊢
          have HR := hide hR
          clear hrow hR a0 a1 a2 hks
          by_cases hz : 3 * t.y * t.z - t.x ≤ M
          · have HZ : Hid (kids M t 2 = ks ++ [t.right]) := hide (by rw [HKS.out, if_pos (show t.right.z ≤ M from hz)])
            go_wp2_with fail
            refine (l22Child_any true t.x t.y t.z _ HB3.out).mono ?_
            rintro e w3 ⟨rfl, hb3⟩
            simp only [fst, snd]
            have RW3 := hide (HR.out.below hb3 HR.out.lt)
            have hl3 : Below w.heap.size w w3 := hbel.trans (hb3.mono hbel.size)
            have hlg3 := RW3.out.lt
            go_wp2_with (at_builtin; refine wpList_append_lies _ rfl (.tmp 51) (.tmp 53) _ rfl 0 24 i0 _ 3 24 Try.underlying38 hi hz0 hz1 hz2 rfl (by omega) (.slice (some ⟨g, 0, none⟩) (L.length + ks.length) c) (L.length + ks.length) (cs3 (L ++ ks)) (by rfl) (Row.own (Row.alloc (Row.alloc RW3.out _) _) (Nat.zero_le _)) ⟨w3.heap.size + 1, 0, none⟩ 1 1 (cs3 [t.right]) (by rfl) (by rfl) (news_new (by simp)) (one3 _) (by omega) (by simp only [maxLen]; omega) (by omega) (Nat.zero_le _) (w3.heap.size + 1 + 1) (by simp) ?_; intro g4 c4 w4 hown4 hgrow4 hat4 hlt4)
            go_roundw
            case rel =>
              have hg4 : w.heap.size ≤ g4 := by
                have := hl3.size
                rcases hat4 with h | h
                · simp [Value.ownBlock] at h; omega
                · omega
              refine ⟨2, g4, c4, ?_, by omega, rfl, hg4, ?_, ((hl3.alloc hl3.size _).alloc (by have := hl3.size; simp; omega) _).grown hgrow4 (by have := hl3.size; simp; omega) (fun k h => by simp [Value.ownBlock] at h; omega)⟩
              · rw [HZ.out]; simp; omega
              · have hh := (Row.of_own hown4).1
                rw [← cs3_append] at hh
                rw [HZ.out, ← List.append_assoc, List.length_append, List.length_append]
                exact hh
            case measure => simp [intOf]
          · have HZ : Hid (kids M t 2 = ks) := hide (by rw [HKS.out, if_neg (show ¬ t.right.z ≤ M from hz), List.append_nil])
            have hz' : M < 3 * t.y * t.z - t.x := by omega
            clear hz
            go_wp2_with fail
            refine (l22Child_any true t.x t.y t.z _ HB3.out).mono ?_
            rintro e w3 ⟨rfl, hb3⟩
            simp only [fst, snd]
            have RW3 := hide (HR.out.below hb3 HR.out.lt)
            have hl3 : Below w.heap.size w w3 := hbel.trans (hb3.mono hbel.size)
            have hlg3 := RW3.out.lt
            go_wp2
            go_roundw
            case rel =>
              refine ⟨2, g, c, by rw [HZ.out, List.length_append], by omega, rfl, hg, ?_, hl3.alloc hl3.size _⟩
              rw [HZ.out, List.length_append]
              exact RW3.out.alloc _
            case measure => simp [intOf]
        · have hkl := kids_le M t 2
          have HR := hide hrow
          clear hrow
          go_wp2
          go_roundw
          case rel => exact ⟨L ++ kids M t 2, k + 1, g, c, rfl, by go_num, hg, HR.out, by rw [← HE.out]; exact HV.out.next hM hlt, hbel⟩
          case measure => simp [intOf]; omega
    · obtain rfl : k = L.length := by omega
      go_wp2
      go_ret
      exact ⟨g, c, L, rfl, hg, HL.out, HV.out.done, hbel⟩

theorem l22All_any (M : Int) (w : World) (_ : 1 ≤ M) (hM : M ≤ 1000000) :
    Calls Try.prog 55 #[.int .i64 M] w fun e w' => ∃ g c ts, e = .returned (.slice (some ⟨g, 0, none⟩) ts.length c) ∧ w.heap.size ≤ g ∧ Row w' g 24 3 ts.length c (cs3 ts) ∧ ts.Perm (allT M) ∧ Below w.heap.size w w' := by
  rcases Int.lt_or_le M 5 with h | h
  · exact l22All_few M w h
  · exact l22All_many M w h hM

end Go.Proofs.Ytjmllmadoelioaa
