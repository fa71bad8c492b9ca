/- ConjugatesOf: the program's. -/
import Derived.Test.YthfhjgmlcilmkaaGreatDoorConP
import Derived.Test.YthfhjgmlcilmkaaGreatDoorWordK
import Derived.Test.YthfhjgmlcilmkaaGreatDoorOwn
import Derived.Test.YthfhjgmlcilmkaaGreatDoorShelfW
import Derived.Test.YthfhjgmlcilmkaaGreatDoorShelfY
import Derived.Test.YthfhjgmlcilmkaaGreatDoorSrt
import Derived.Shelf.SortM.Plain
import Derived.Shelf.SlicesE.Compact
import Derived.StillTailTactics
import Derived.Deep.DeepCutAuto
namespace Go.Proofs.YthfhjgmlcilmkaaGreatDoor
open Go.RowKit Go.Sort Go.Shelf Go.Lib

theorem info_strC : (Tryz.prog.info? 9).map (fun i => (i.zero, i.size, i.bytes)) = some (some (.string ⟨#[]⟩), 1, 16) := by kernel_rfl
theorem own_row {w : World} {base : Nat} {e : TypeId} {k n : Nat} {v : Value} {xs : List Value} (h : w.ownsRow base e k v n xs) (hv : v ≠ .slice none 0 0) : ∃ g cap, v = .slice (some ⟨g, 0, none⟩) n cap ∧ base ≤ g ∧ Row w g e k n cap xs := by
  rcases h.2 with ⟨rfl, _⟩ | ⟨g, cap, cur, rfl, hb, _⟩
  · exact absurd rfl hv
  · exact ⟨g, cap, rfl, hb, (Row.of_own h).1⟩
theorem Row.cutS {w : World} {g k n m cap : Nat} {e : TypeId} {xs : List Value} (h : Row w g e k n cap xs) (hm : m ≤ n) : Row w g e k m cap (xs.take (m * k)) := by
  obtain ⟨cur, h1, h2, h3, h4, h5, h6⟩ := h
  have hmk : m * k ≤ n * k := Nat.mul_le_mul_right _ hm
  refine ⟨cur, h1, by omega, h3, h4, ?_, by rw [List.length_take, h6]; omega⟩
  rw [← h5, List.take_take, Nat.min_eq_left hmk]
theorem rot_ba (s : ByteArray) (k : Nat) : s.extract k s.size ++ s.extract 0 k = ⟨(rot s.data.toList k).toArray⟩ := by
  apply ByteArray.ext
  apply Array.ext'
  have e1 : (s.extract k s.size).data.toList = s.data.toList.drop k := by
    rcases s with ⟨⟨x⟩⟩
    simp [ByteArray.extract, ByteArray.copySlice, ByteArray.size]
    exact List.take_of_length_le (by simp)
  have e2 : (s.extract 0 k).data.toList = s.data.toList.take k := by simp [ByteArray.extract, ByteArray.copySlice]
  unfold rot
  rw [← e1, ← e2]
  simp

theorem EqlAt.encStr (P : Program) (T : TypeId) : EqlAt P T Go.Proofs.encStr (fun x y => decide (x = y)) :=
  ⟨fun x y w => by rw [(EqlAt.string P T).1 ⟨x.toArray⟩ ⟨y.toArray⟩ w]; simp only [toList_data]; by_cases h : x = y <;> simp [h], fun op a b x y w => GuardAt.string P T op a b ⟨x.toArray⟩ ⟨y.toArray⟩ w⟩
theorem NeqAt.encStr (P : Program) (T : TypeId) : NeqAt P T Go.Proofs.encStr (fun x y => decide (x = y)) :=
  ⟨fun x y w => by rw [(NeqAt.string P T).1 ⟨x.toArray⟩ ⟨y.toArray⟩ w]; simp only [toList_data]; by_cases h : x = y <;> simp [h], fun op a b x y w => GuardAt.string P T op a b ⟨x.toArray⟩ ⟨y.toArray⟩ w⟩

theorem sortStr_any (g n cap : Nat) (L : List (List UInt8)) (w : World) (hn : n ≤ 1000000000) (h : Row w g 9 1 n cap (ssl (bas L))) :
    Calls Tryz.prog 29 #[.slice (some ⟨g, 0, none⟩) n cap] w fun e w' => e = .returned (.tuple #[]) ∧ Row w' g 9 1 n cap (ssl (bas (srtS L))) ∧ w.grownBy w' (some g) := by
  have hl : L.length = n := by have := h.len; rw [ssl_len, bas_len] at this; omega
  subst hl
  have hr : Row w g 9 1 L.length cap (L.toArray.toList.map encStr) := by rw [bas_enc] at h; exact h
  have hcon := AnyM.slices_Sort_string Tryz.sortStr g 0 cap L w hr.holds h.lt (by omega)
  refine Calls.mono (show Calls Tryz.prog 29 _ w _ from hcon) ?_
  rintro e w' ⟨rfl, m, os, rfl⟩
  obtain ⟨a1, a2⟩ := sort_row (d' := (srtS L).toArray) hr (by simp [srtS_len]) m os
  refine ⟨rfl, ?_, a2⟩
  rw [bas_enc]
  exact a1

theorem compactStr_any (g n cap : Nat) (L : List (List UInt8)) (w : World) (hn : n ≤ 1000000000) (h : Row w g 9 1 n cap (ssl (bas L))) :
    Calls Tryz.prog 30 #[.slice (some ⟨g, 0, none⟩) n cap] w fun e w' => e = .returned (.slice (some ⟨g, 0, none⟩) (compactUpTo L.toArray n).length cap) ∧ (compactUpTo L.toArray n).length ≤ n ∧ Row w' g 9 1 (compactUpTo L.toArray n).length cap (ssl (bas (compactUpTo L.toArray n))) ∧ w.grownBy w' (some g) := by
  have hl : L.length = n := by have := h.len; rw [ssl_len, bas_len] at this; omega
  subst hl
  have hcap := h.cap_
  have hr : Row w g 9 1 L.length cap (L.toArray.toList.map encStr) := by rw [bas_enc] at h; exact h
  have hcon := AnyE.slices_Compact Tryz.compactStr encStr (fun _ => rfl) (EqlAt.encStr _ _) (NeqAt.encStr _ _) [] Tryz.zeroValue9 g 0 cap L.toArray w hr.holds (by simp; omega) (by simp; omega)
  have hle : (compactUpTo L.toArray L.length).length ≤ L.length := by
    unfold compactUpTo
    rw [List.length_map]
    exact Nat.le_trans (List.length_filter_le _ _) (by simp)
  have hs : L.toArray.size = L.length := by simp
  rw [hs] at hcon
  generalize compactUpTo L.toArray L.length = R at *
  refine Calls.mono (show Calls Tryz.prog 30 _ w _ from hcon) ?_
  rintro e w' ⟨rfl, m, rfl⟩
  obtain ⟨a1, a2⟩ := sort_row (d' := (R ++ List.replicate (L.length - R.length) []).toArray) hr (by simp; omega) m #[]
  have e2 : sortWorld encStr w g 0 m (R ++ List.replicate (L.length - R.length) []).toArray #[] = putRow encStr (Sort.ahead w m) g 0 (R ++ List.replicate (L.length - R.length) []).toArray := by unfold sortWorld; rw [grow_empty]
  rw [e2] at a1 a2
  refine ⟨rfl, hle, ?_, a2⟩
  have := a1.cutS hle
  rw [Nat.mul_one] at this
  simp only [List.map_append] at this
  rw [List.take_left' (by simp)] at this
  rw [bas_enc]
  exact this

/-- The first k conjugates. -/
def rots (l : List UInt8) (k : Nat) : List (List UInt8) := (List.range k).map (rot l)
theorem rots_succ (l : List UInt8) (k : Nat) : ssl (bas (rots l (k + 1))) = ssl (bas (rots l k)) ++ ssl [⟨(rot l k).toArray⟩] := by
  unfold rots bas ssl
  rw [List.range_succ]
  simp
theorem rots_len (l : List UInt8) (k : Nat) : (rots l k).length = k := by simp [rots]

set_option maxRecDepth 100000 in
set_option maxHeartbeats 2000000 in
theorem implConjugatesOf_any (s : ByteArray) (w : World) (hs : s.size ≤ 9223372036854775807) :
    Calls Tryz.prog 9 #[.string s] w fun e w' => ∃ v c out, e = .returned (.tuple #[v, .int .i64 c]) ∧ ConR s.data.toList c out ∧ LstS w' w.heap.size v (bas out) ∧ Below w.heap.size w w' := by
  obtain ⟨i0, hi, hz0, hz1, hz2⟩ := info_parts info_strC
  have hlen : s.data.toList.length = s.size := by simp
  have hW := isWord_any s
  by_cases ho : okW s.data.toList = true
  · rw [ho] at hW
    have h1 := (okW_all ho).2.1
    rw [hlen] at h1
    by_cases hbig : 60 < s.size
    · have HR : Hid (ConR s.data.toList 2 []) := .inr (.inl ⟨ho, by rw [hlen]; exact hbig, rfl, rfl⟩)
      have i1 : (60 : Int) < (s.size : Int) := by omega
      clear ho hlen
      go_enter Tryz.func9, Tryz.ntmps9
      go_wp2_with fail
      refine (hW _ hs).mono ?_
      rintro e w1 ⟨rfl, hb1⟩
      go_wp2_with fail
      go_returns
      exact ⟨_, 2, [], rfl, HR.out, LstS.nil_ _ _, hb1⟩
    · have HR : Hid (∀ out, CR s.data.toList s.size out → ConR s.data.toList 0 out) := fun out h => .inr (.inr ⟨ho, by omega, rfl, by rw [hlen]; exact h⟩)
      have hcr := CR.sorted s.data.toList
      rw [hlen] at hcr
      change CR s.data.toList s.size (compactUpTo (srtS (rots s.data.toList s.size)).toArray (srtS (rots s.data.toList s.size)).length) at hcr
      rw [srtS_len, rots_len] at hcr
      have HC := hide (HR.out _ hcr)
      have i1 : ¬ (60 : Int) < (s.size : Int) := by omega
      have hrot := rot_ba s
      have HROT := hide hrot
      have hsucc := rots_succ s.data.toList
      have HSU := hide hsucc
      clear ho hlen hcr HR hrot hsucc
      obtain ⟨l, hl⟩ : ∃ l, s.data.toList = l := ⟨_, rfl⟩
      rw [hl] at HC HROT HSU
      simp only [hl]
      clear hl
      go_enter Tryz.func9, Tryz.ntmps9
      go_wp2_with fail
      refine (hW _ hs).mono ?_
      rintro e w1 ⟨rfl, hb1⟩
      clear hW
      go_wp2_with fail
      go_loopw [4, 16] (fun v i wr => ∃ k : Nat, i = .int .i64 k ∧ k ≤ s.size ∧ wr.ownsRow w.heap.size 9 1 v k (ssl (bas (rots l k))) ∧ Below w.heap.size w wr) (fun _ i _ => s.size - (intOf i).toNat)
      case atStart => exact ⟨0, rfl, by omega, World.ownsRow_nil _ _ _ _, hb1⟩
      case round =>
        obtain ⟨k, rfl, hk, hown, hbel⟩ := hrel
        have HO := hide hown
        have sz := hbel.size
        clear hown hb1
        by_cases hlt : k < s.size
        · have i2 : (k : Int) < (s.size : Int) := by omega
          have i3 : (k : Int) ≤ (s.size : Int) := by omega
          have i6 : ¬ 9223372036854775807 < s.size := by omega
          have i7 : s.size ≤ 60 := by omega
          have hZ := HROT.out k
          obtain ⟨Z, hZ2⟩ : ∃ Z : ByteArray, (⟨(rot l k).toArray⟩ : ByteArray) = Z := ⟨_, rfl⟩
          have hsu := HSU.out k
          rw [hZ2] at hZ hsu
          have HS1 := hide hsu
          clear hsu hZ2
          go_wp2_with fail
          go_region_law ((refine step_append_lies _ (by rfl) (.tmp 19) (.tmp 27) _ (by rfl) w.heap.size 9 i0 _ 1 16 Tryz.underlying31 hi hz0 hz1 hz2 rfl (by omega) u4 k (ssl (bas (rots l k))) (by rfl) (own_below HO.out (((Below.refl _ _).alloc (Nat.le_refl _) _).drew)) ⟨wr.heap.size, 0, none⟩ 1 1 (ssl [Z]) (by rfl) (by rfl) (fun j u hu => news_new (w := wr) rfl j u hu) (one_ssl _) (by omega) (by simp only [maxLen]; omega) (by omega) (by simp; omega) (wr.heap.size + 1) (by simp) ?_; intro g1 cc w2 hown1 hgrow1 hat1 hlt1))
          all_goals
            rw [← HS1.out] at hown1
            have HO1 := hide hown1
            have hb1 : Below w.heap.size w w2 := (hbel.alloc sz _).drew.grown hgrow1 (by simp; omega) (own_base HO.out)
            clear hown1 hgrow1 hat1
            go_wp2_with fail
            go_roundw
            case rel => exact ⟨k + 1, by go_num, by omega, HO1.out, hb1⟩
            case measure => simp [intOf]; omega
        · have hkn : k = s.size := by omega
          subst hkn
          have i2 : ¬ (s.size : Int) < (s.size : Int) := by omega
          obtain ⟨g, cap, hv, hg, hr⟩ := own_row HO.out (by rintro rfl; rcases HO.out.2 with ⟨_, h0⟩ | ⟨g, cap, cur, h0, _⟩ <;> first | omega | cases h0)
          subst hv
          have HR := hide hr
          clear hr HO
          go_wp2_with fail
          refine (sortStr_any g s.size cap (rots l s.size) _ (by omega) HR.out).mono ?_
          rintro e w2 ⟨rfl, r2, hg2⟩
          have HR2 := hide r2
          have hb2 : Below w.heap.size w w2 := hbel.grown hg2 sz (fun k hk => by injection hk; omega)
          clear r2 HR hg2 hbel
          go_wp2_with fail
          refine (compactStr_any g s.size cap (srtS (rots l s.size)) _ (by omega) HR2.out).mono ?_
          rintro e w3 ⟨rfl, hle, r3, hg3⟩
          have hb3 : Below w.heap.size w w3 := hb2.grown hg3 hb2.size (fun k hk => by injection hk; omega)
          generalize compactUpTo (srtS (rots l s.size)).toArray s.size = R at *
          have HR3 := hide r3
          clear r3 HR2 hg3 hb2
          go_wp2_with fail
          go_returns
          first
            | exact ⟨_, 0, rfl, R, HC.out, LstS.of_row HR3.out hg (by omega), hb3⟩
            | exact ⟨_, 0, R, rfl, HC.out, LstS.of_row HR3.out hg (by omega), hb3⟩
  · have hf : okW s.data.toList = false := by simpa using ho
    have HR : Hid (ConR s.data.toList 1 []) := .inl ⟨hf, rfl, rfl⟩
    rw [hf] at hW
    clear ho hlen hf
    go_enter Tryz.func9, Tryz.ntmps9
    go_wp2_with fail
    refine (hW _ hs).mono ?_
    rintro e w1 ⟨rfl, hb1⟩
    go_wp2_with fail
    go_returns
    exact ⟨_, 1, [], rfl, HR.out, LstS.nil_ _ _, hb1⟩

end Go.Proofs.YthfhjgmlcilmkaaGreatDoor
