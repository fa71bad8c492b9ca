/- triplesUpTo: the program's list of all triples up to a limit is the tree's, in some order. -/
import Derived.Test.YtjmllmadoelioaaMk3
import Derived.Test.YtjmllmadoelioaaInts
import Derived.Test.YtjmllmadoelioaaRow
import Derived.Test.YtjmllmadoelioaaTree
import Derived.Deep.RegionHeld3
import Derived.Deep.LoopGhost
namespace Go.Proofs.Ytjmllmadoelioaa
open Go.RowKit

def c3 (t : T3) : List Value := [.int .i64 t.x, .int .i64 t.y, .int .i64 t.z]
def cs3 (ts : List T3) : List Value := ts.flatMap c3
theorem cs3_len (ts : List T3) : (cs3 ts).length = ts.length * 3 := by
  induction ts with
  | nil => rfl
  | cons t ts ih => simp only [cs3, List.flatMap_cons, List.length_append, List.length_cons] at ih ⊢; rw [ih]; simp [c3]; omega
theorem cs3_append (a b : List T3) : cs3 (a ++ b) = cs3 a ++ cs3 b := by simp [cs3]
theorem cs3_at {ts : List T3} {i : Nat} (hi : i < ts.length) : (cs3 ts)[i * 3]? = some (.int .i64 ts[i].x) ∧ (cs3 ts)[i * 3 + 1]? = some (.int .i64 ts[i].y) ∧ (cs3 ts)[i * 3 + 2]? = some (.int .i64 ts[i].z) := by
  have e : ts = ts.take i ++ ts[i] :: ts.drop (i + 1) := by rw [← List.drop_eq_getElem_cons hi, List.take_append_drop]
  have e2 : cs3 ts = cs3 (ts.take i) ++ (c3 ts[i] ++ cs3 (ts.drop (i + 1))) := by
    conv => lhs; rw [e]
    rw [cs3_append]; rfl
  have hl : (cs3 (ts.take i)).length = i * 3 := by rw [cs3_len, List.length_take]; omega
  rw [e2]
  refine ⟨?_, ?_, ?_⟩ <;> rw [List.getElem?_append_right (by omega), hl] <;> simp [c3]
theorem one3 (ts : List T3) : ∀ u ∈ cs3 ts, u.oneCell' = true := by
  intro u hu
  simp only [cs3, List.mem_flatMap, c3] at hu
  obtain ⟨t, _, h⟩ := hu
  simp at h
  rcases h with rfl | rfl | rfl <;> rfl
theorem info_triple : (Try.prog.info? 24).map (fun i => (i.zero, i.size, i.bytes)) = some (some (.agg #[.int .i64 0, .int .i64 0, .int .i64 0]), 3, 24) := by kernel_rfl

theorem last_or {α : Type} (S : List α) : S = [] ∨ ∃ S' t, S = S' ++ [t] := by
  rcases List.eq_nil_or_concat S with h | ⟨S', t, h⟩
  · exact .inl h
  · exact .inr ⟨S', t, by rw [h, List.concat_eq_append]⟩

/-- The first triples, as the first rounds take them. -/
def firsts (M : Int) (k : Nat) : List T3 := ([⟨1, 1, 1⟩, ⟨1, 1, 2⟩].take k).filter fun t => decide (t.z ≤ M)

set_option maxRecDepth 100000 in
set_option maxHeartbeats 1000000 in
theorem triplesUpTo_any (M : Int) (w : World) (h1 : 1 ≤ M) (hM : M ≤ 1000000) :
    Calls Try.prog 48 #[.int .i64 M] w fun e w' => ∃ g c ts, e = .returned (.slice (some ⟨g, 0, none⟩) ts.length c) ∧ w.heap.size ≤ g ∧ Row w' g 24 3 ts.length c (cs3 ts) ∧ ts.Perm (allT M) ∧ Below w.heap.size w w' := by
  obtain ⟨i0, hi, hz0, hz1, hz2⟩ := info_parts info_triple
  have f1 : firsts M 1 = [⟨1, 1, 1⟩] := by simp [firsts, h1]
  go_enter Try.func48, Try.ntmps48
  go_wp2
  go_loopw [3, 12] (fun v i wr => ∃ k : Nat, k ≤ 2 ∧ i = .int .i64 k ∧ ((k = 0 ∧ v = .slice none 0 0) ∨ ∃ g c, 0 < k ∧ v = .slice (some ⟨g, 0, none⟩) (firsts M k).length c ∧ w.heap.size + 1 ≤ g ∧ Row wr g 24 3 (firsts M k).length c (cs3 (firsts M k))) ∧ Blk wr w.heap.size 24 #[.int .i64 1, .int .i64 1, .int .i64 1, .int .i64 1, .int .i64 1, .int .i64 2] ∧ Below w.heap.size w wr) (fun _ i _ => 2 - (intOf i).toNat)
  case atStart => exact ⟨0, by omega, rfl, .inl ⟨rfl, rfl⟩, Blk.new _ _ _, by go_grown⟩
  case round =>
    obtain ⟨k, hk, rfl, hv, hB, hbel⟩ := hrel
    have HB := hide hB
    clear hB
    obtain ⟨kc, kf, kz, _⟩ := HB.out.after (Below.refl (w.heap.size + 1) wr) (by omega)
    have sz := hbel.size
    rcases (show k = 0 ∨ k = 1 ∨ k = 2 from by omega) with rfl | rfl | rfl
    · obtain ⟨_, rfl⟩ | ⟨g, c, h0, _⟩ := hv
      · go_wp2_with (at_builtin; refine wpList_append_lies _ rfl (.tmp 20) (.tmp 22) _ rfl 0 24 i0 _ 3 24 Try.underlying38 hi hz0 hz1 hz2 rfl (by omega) (.slice none 0 0) 0 [] (by rfl) (World.ownsRow_nil _ _ _ _) ⟨wr.heap.size + 1, 0, none⟩ 1 1 (cs3 [⟨1, 1, 1⟩]) (by rfl) (by rfl) (news_new (by simp)) (one3 _) (by omega) (by simp only [maxLen]; omega) (by omega) (Nat.zero_le _) (wr.heap.size + 1 + 1) (by simp) ?_; intro g c w1 hown1 hgrow1 hat1 hlt1)
        go_roundw
        case rel =>
          have hg : g = wr.heap.size + 1 + 1 := by rcases hat1 with h | h; · cases h
                                                   · exact h
          refine ⟨1, by omega, rfl, .inr ⟨g, c, by omega, by rw [f1]; rfl, by omega, by rw [f1]; exact (Row.of_own hown1).1⟩, ((HB.out.alloc _).alloc _).grown hgrow1 (fun h => by cases h), ?_⟩
          exact ((hbel.alloc (by omega) _).alloc (by simp; omega) _).grown hgrow1 (by simp; omega) (fun k h => by cases h)
        case measure => simp [intOf]
      · omega
    · obtain ⟨h0, _⟩ | ⟨g, c, _, rfl, hg, hrow⟩ := hv
      · omega
      · rw [f1] at hrow
        have hr := Row.own hrow (Nat.zero_le g)
        have HR := hide hr
        have HW := hide hrow
        have hf1 : (firsts M 1).length = 1 := by rw [f1]; rfl
        clear hr hrow
        rw [hf1]
        have F1 := hide f1
        have HF1 := hide hf1
        clear f1 hf1
        by_cases h2 : 2 ≤ M
        · have f2 : firsts M 2 = [⟨1, 1, 1⟩, ⟨1, 1, 2⟩] := by simp [firsts, h1, h2]
          have F2 := hide f2
          clear f2
          go_wp2_with (at_builtin; refine wpList_append_lies _ rfl (.tmp 20) (.tmp 22) _ rfl 0 24 i0 _ 3 24 Try.underlying38 hi hz0 hz1 hz2 rfl (by omega) (.slice (some ⟨g, 0, none⟩) 1 c) 1 (cs3 [⟨1, 1, 1⟩]) (by rfl) ((HR.out.alloc _).alloc _) ⟨wr.heap.size + 1, 0, none⟩ 1 1 (cs3 [⟨1, 1, 2⟩]) (by rfl) (by rfl) (news_new (by simp)) (one3 _) (by omega) (by simp only [maxLen]; omega) (by omega) (Nat.zero_le _) (wr.heap.size + 1 + 1) (by simp) ?_; intro g' c' w1 hown1 hgrow1 hat1 hlt1)
          go_roundw
          case rel =>
            have hg' : w.heap.size + 1 ≤ g' := by
              rcases hat1 with h | h
              · simp [Value.ownBlock] at h; omega
              · omega
            refine ⟨2, by omega, rfl, .inr ⟨g', c', by omega, by rw [F2.out]; rfl, hg', by rw [F2.out]; exact (Row.of_own hown1).1⟩, ((HB.out.alloc _).alloc _).grown hgrow1 (fun h => by simp [Value.ownBlock] at h; omega), ?_⟩
            exact ((hbel.alloc (by omega) _).alloc (by simp; omega) _).grown hgrow1 (by simp; omega) (fun k h => by simp [Value.ownBlock] at h; omega)
          case measure => simp [intOf]
        · have f2 : firsts M 2 = [⟨1, 1, 1⟩] := by simp [firsts, h1, h2]
          have F2 := hide f2
          clear f2
          go_wp2
          go_roundw
          case rel =>
            exact ⟨2, by omega, rfl, .inr ⟨g, c, by omega, by rw [F2.out]; rfl, hg, by rw [F2.out]; exact HW.out.alloc _⟩, HB.out.alloc _, hbel.alloc (by omega) _⟩
          case measure => simp [intOf]
    · obtain ⟨h0, _⟩ | ⟨g, c, _, rfl, hg, hrow⟩ := hv
      · omega
      · have f2 : firsts M 2 = small M := by
          by_cases h2 : 2 ≤ M <;> simp [firsts, small, h1, h2]
        rw [f2] at hrow ⊢
        have HW := hide hrow
        clear hrow f2 f1
        go_wp2_with fail
        go_loopg [3, 6] (looksAll M [⟨1, 2, 5⟩]) (fun n v u wr => ∃ (L S : List T3) (g c g' c' : Nat), n = looksAll M S ∧ v = .slice (some ⟨g, 0, none⟩) L.length c ∧ u = .slice (some ⟨g', 0, none⟩) S.length c' ∧ w.heap.size + 1 ≤ g ∧ w.heap.size + 1 ≤ g' ∧ g ≠ g' ∧ Row wr g 24 3 L.length c (cs3 L) ∧ Row wr g' 24 3 S.length c' (cs3 S) ∧
            (L ++ S.flatMap (tr M)).Perm (allT M) ∧ (∀ t ∈ S, t.Up) ∧ looksAll M S ≤ 2097155 ∧ Below w.heap.size w wr)
        case atStart =>
          refine ⟨small M, [⟨1, 2, 5⟩], g, c, wr.heap.size, 1, rfl, rfl, rfl, hg, by omega, by have := HW.out.lt; omega, HW.out.alloc _, Row.lit rfl (by rfl) (by simp [maxLen]), ?_, ?_, ?_, hbel.alloc (by omega) _⟩
          · simp [allT]
          · intro t ht
            simp at ht
            subst ht
            simp [T3.Up]
          · have := tr_len M ⟨1, 2, 5⟩
            simp only [looksAll, looks]; omega
        case round =>
          clear HW
          rename_i wr0
          obtain ⟨L, S, g, c, g', c', hgk, rfl, rfl, hg, hg', hne, hL, hS, hp, hup, hlk, hbel⟩ := hrel
          have HL := hide hL
          have HP := hide hp
          have hLl : L.length ≤ 1048578 := by
            have := hp.length_eq
            have := allT_len M
            simp only [List.length_append] at *
            omega
          have hSl : S.length ≤ 2097155 := by rw [looksAll_flat] at hlk; omega
          have sz := hbel.size
          rcases last_or S with rfl | ⟨S', t, rfl⟩
          · clear hL hS hp hup
            go_wp2
            go_ret
            refine ⟨g, c, L, rfl, by omega, HL.out, ?_, hbel⟩
            simpa using HP.out
          · have ht := hup t (by simp)
            have hup' : ∀ t ∈ S', t.Up := fun u hu => hup u (by simp [hu])
            obtain ⟨a0, a1, a2⟩ := cs3_at (ts := S' ++ [t]) (i := S'.length) (by simp)
            rw [List.getElem_concat_length rfl] at a0 a1 a2
            have c0 := hS.cell a0
            have c1 := hS.cell a1
            have c2 := hS.cell a2
            have hcap := hS.cap_.1
            rw [List.length_append, List.length_singleton] at hS hcap hSl ⊢
            have HS := hide hS
            have HT := hide ht
            have HU := hide hup'
            have HK := hide hgk
            clear hL hS hp hup hup' a0 a1 a2 ht hgk
            by_cases hz : t.z ≤ M
            · have hlg := HL.out.lt
              have hlg' := HS.out.lt
              go_wp2_with (at_builtin; refine wpList_append_lies _ rfl (.tmp 45) (.tmp 47) _ rfl 0 24 i0 _ 3 24 Try.underlying38 hi hz0 hz1 hz2 rfl (by omega) (.slice (some ⟨g, 0, none⟩) L.length c) L.length (cs3 L) (by rfl) (((HL.out.alloc _).alloc _).own (Nat.zero_le _)) ⟨wr.heap.size + 1, 0, none⟩ 1 1 (cs3 [t]) (by rfl) (by rfl) (news_new (by simp)) (one3 _) (by omega) (by simp only [maxLen]; omega) (by omega) (Nat.zero_le _) (wr.heap.size + 1 + 1) (by simp) ?_; intro g1 c1 w1 hown1 hgrow1 hat1 hlt1)
              have RL := hide (Row.of_own hown1).1
              have hg1 : w.heap.size + 1 ≤ g1 ∧ g1 ≠ g' ∧ g1 < w1.heap.size := by
                rcases hat1 with h | h
                · simp [Value.ownBlock] at h; omega
                · omega
              have RS : Hid (Row w1 g' 24 3 S'.length c' (cs3 S')) := by
                have h := ((HS.out.alloc _).alloc _).grown hgrow1 (by simp [Value.ownBlock]; omega)
                rw [cs3_append] at h
                exact h.pop (cs3_len _)
              have RB := hide (((Blk.new wr 24 #[.int .i64 t.x, .int .i64 t.y, .int .i64 t.z]).alloc _).grown hgrow1 (by simp [Value.ownBlock]; omega))
              have hl1 : Below w.heap.size w w1 := ((hbel.alloc (by omega) _).alloc (by simp; omega) _).grown hgrow1 (by simp; omega) (fun k h => by simp [Value.ownBlock] at h; omega)
              have hlw := RB.out.lt
              have hlt' : g' < w1.heap.size := by omega
              clear hown1 hgrow1 hat1 hlt1
              have HSS : Hid (∀ w', w1.grownBy w' (some g') → (w1.grownBy w' (some g') ∧ w'.cell? ⟨wr.heap.size, 0, none⟩ = some (.int .i64 t.x) ∧ w'.cell? ⟨wr.heap.size, 1, none⟩ = some (.int .i64 t.y) ∧ w'.cell? ⟨wr.heap.size, 2, none⟩ = some (.int .i64 t.z))) := by
                intro w' hw
                have hb := RB.out.grown hw (by simp; omega)
                obtain ⟨kc, _⟩ := hb.after (Below.refl (wr.heap.size + 1) w') (by omega)
                exact ⟨hw, (kc 0).trans rfl, (kc 1).trans rfl, (kc 2).trans rfl⟩
              have HB3 : Hid (0 ≤ t.x ∧ t.x ≤ 1000000000 ∧ 0 ≤ t.y ∧ t.y ≤ 1000000000 ∧ 0 ≤ t.z ∧ t.z ≤ 1000000000) := hide (by have := HT.out; unfold T3.Up at this; omega)
              go_region_held3 (fun w' => w1.grownBy w' (some g') ∧ w'.cell? ⟨wr.heap.size, 0, none⟩ = some (.int .i64 t.x) ∧ w'.cell? ⟨wr.heap.size, 1, none⟩ = some (.int .i64 t.y) ∧ w'.cell? ⟨wr.heap.size, 2, none⟩ = some (.int .i64 t.z))
                (first | assumption | exact HSS.out _ (gdrew _ _) | exact HSS.out _ (gnext (by assumption) hb3) | exact HSS.out _ (gnext (by assumption) hb2) | exact HSS.out _ (galloc (by assumption)) | exact HSS.out _ (gapp (by assumption) hgrow2))
                (first
                  | (go_at_call 63; refine (leftChild_any _ _ _ _ HB3.out).mono ?_; rintro e w2 ⟨rfl, hb2⟩)
                  | (go_at_call 42; refine (rightChild_any _ _ _ _ HB3.out).mono ?_; rintro e w3 ⟨rfl, hb3⟩)
                  | (refine step_append_lies _ (by rfl) (.tmp 49) (.tmp 54) _ (by rfl) 0 24 i0 _ 3 24 Try.underlying38 hi hz0 hz1 hz2 rfl (by omega) (.slice (some ⟨g', 0, none⟩) S'.length c') S'.length (cs3 S') (by rfl) (Row.own (Row.alloc (((RS.out.below (Below.refl w1.heap.size w1).drew hlt').below hb2 hlt').below hb3 (Nat.lt_of_lt_of_le hlt' hb2.size)) _) (Nat.zero_le _)) ⟨w3.heap.size, 0, none⟩ 2 2 (cs3 [t.left, t.right]) (by rfl) (by rfl) (news_new (by simp)) (one3 _) (by omega) (by simp only [maxLen]; omega) (by omega) (Nat.zero_le _) (w3.heap.size + 1) (by simp) ?_; intro g2 c2 w4 hown2 hgrow2 hat2 hlt2))
              clear hSl hLl
              go_wp2
              go_roundg (looksAll M (S' ++ [t.left, t.right]))
              case measure =>
                have := (last_looks (S := S') hM HT.out).1 hz
                have := HK.out
                omega
              case rel =>
                have hgrow0 := hgrow2
                have R2 := (Row.of_own hown2).1
                have lk := (last_looks (S := S') hM HT.out).1 hz
                have hg2 : w.heap.size + 1 ≤ g2 ∧ g1 ≠ g2 := by
                  have := hb3.size
                  have := hb2.size
                  have hs1 : w1.drew.heap.size = w1.heap.size := rfl
                  rcases hat2 with h | h
                  · simp [Value.ownBlock] at h; omega
                  · omega
                have RL2 : Row w4 g1 24 3 (L.length + 1) c1 (cs3 L ++ cs3 [t]) :=
                  Row.grown (Row.alloc (((RL.out.below (Below.refl w1.heap.size w1).drew hg1.2.2).below hb2 hg1.2.2).below hb3 (Nat.lt_of_lt_of_le hg1.2.2 hb2.size)) _) hgrow0 (by simp [Value.ownBlock]; omega)
                refine ⟨L ++ [t], S' ++ [t.left, t.right], g1, c1, g2, c2, rfl, by simp, by simp, hg1.1, hg2.1, hg2.2, ?_, ?_, (last_step hM HT.out HP.out).1 hz, ?_, by omega, ?_⟩
                · rw [List.length_append, cs3_append]; exact RL2
                · rw [List.length_append, cs3_append]; exact R2
                · intro u hu
                  rcases List.mem_append.1 hu with hu | hu
                  · exact HU.out u hu
                  · simp at hu
                    rcases hu with rfl | rfl
                    · exact HT.out.left.1
                    · exact HT.out.right.1
                · have q1 : Below w.heap.size w w3 := (hl1.drew.trans (hb2.mono hl1.size)).trans (hb3.mono (Nat.le_trans hl1.size hb2.size))
                  exact (q1.alloc q1.size _).grown hgrow0 (by have := q1.size; simp; omega) (fun k h => by simp [Value.ownBlock] at h; omega)
            · have hz' : M < t.z := by omega
              clear hz
              go_wp2
              go_roundg (looksAll M S')
              case measure =>
                have := (last_looks (S := S') hM HT.out).2 hz'
                have := HK.out
                omega
              case rel =>
                have lk := (last_looks (S := S') hM HT.out).2 hz'
                refine ⟨L, S', g, c, g', c', rfl, rfl, rfl, hg, hg', hne, HL.out.alloc _, ?_, (last_step hM HT.out HP.out).2 hz', HU.out, by omega, hbel.alloc (by omega) _⟩
                have h := HS.out.alloc (.cells #[.int .i64 t.x, .int .i64 t.y, .int .i64 t.z] 24)
                rw [cs3_append] at h
                exact h.pop (cs3_len _)

end Go.Proofs.Ytjmllmadoelioaa
