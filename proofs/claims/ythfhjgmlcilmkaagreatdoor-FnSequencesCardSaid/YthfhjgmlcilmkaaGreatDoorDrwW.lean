/- Draws of words. -/
import Derived.Test.YthfhjgmlcilmkaaGreatDoorDrwF
import Derived.Test.YthfhjgmlcilmkaaGreatDoorWordIsChristoffel
import Derived.Lib.QuietBelow
import Derived.Deep.DeepCutAuto
import Derived.Deep.CutBlock
namespace Go.Proofs.YthfhjgmlcilmkaaGreatDoor
open Go.RowKit Go.Sort

theorem text_any (g B k : Nat) (A : Option Addr) (n c : Nat) (ss : List ByteArray) (w : World) (h : Src w g B (k + 2)) (hr : Rd w w.heap.size 1 A n (ss.map Value.string)) (hn : 0 < n) (hn2 : n ≤ 9223372036854775807) (hne : ∀ b o, A = some ⟨b, o, none⟩ → b ≠ g) :
    Calls Tryz.prog 45 #[.pointer (some ⟨g, 0, none⟩), .slice A n c] w fun e w' => ∃ s, e = .returned (.string s) ∧ s ∈ ss ∧ Src w' g B k ∧ w.grownBy w' (some g) := by
  obtain ⟨b, o, rfl, hb, hc⟩ := hr.2 hn
  have hl : ss.length = n := by have := hr.1; simpa using this
  have hbg := hne b o rfl
  go_enter Tryz.func45, Tryz.ntmps45
  go_wp2_with fail
  refine (pick_any g B k n _ h).mono ?_
  rintro e w1 ⟨v, rfl, v0, v1, hs, hg⟩
  have v2 : v < n := by omega
  obtain ⟨j, rfl⟩ := Int.eq_ofNat_of_zero_le v0
  have hj : j < ss.length := by omega
  have c1 : w1.cell? ⟨b, o + j, none⟩ = some (.string ss[j]) := by
    have := hc j _ (show (ss.map Value.string)[j]? = some (.string ss[j]) by simp [hj])
    rw [← this]
    exact World.cell?_of_block (w := w) (a := ⟨b, o + j, none⟩) (hg.block b hb (by intro h; injection h; omega))
  have hm := List.getElem_mem hj
  go_wp2
  go_ret
  exact ⟨_, rfl, hm, hs, hg⟩

/-- One of some texts that lie in a block that has just been made. -/
theorem text_new (g B k : Nat) (ss : List ByteArray) (cs : Array Value) (n m : Nat) (w : World) (h : Src w g B (k + 2)) (hcs : cs = (ss.map Value.string).toArray) (hl : ss.length = n) (hn : 0 < n) (hn2 : n ≤ 1000) (hm : ∀ s ∈ ss, s.size ≤ m) :
    Calls Tryz.prog 45 #[.pointer (some ⟨g, 0, none⟩), .slice (some ⟨w.heap.size, 0, none⟩) n n] (w.alloc (.cells cs 9)) fun e w' => ∃ s, e = .returned (.string s) ∧ s.size ≤ m ∧ Src w' g B k ∧ w.grownBy w' (some g) := by
  subst hcs
  have hr : Row (w.alloc (.cells (ss.map Value.string).toArray 9)) w.heap.size 9 1 n n (ss.map Value.string).toArray.toList := Row.lit rfl (by simp; omega) (by simp only [maxLen]; omega)
  rw [List.toList_toArray] at hr
  have hlt := h.lt
  refine (text_any g B k _ n n ss _ (h.alloc _) hr.rd hn (by omega) (by intro b o e; injection e with e; injection e; omega)).mono ?_
  rintro e w' ⟨s, rfl, hs0, hs, hg⟩
  exact ⟨s, rfl, hm s hs0, hs, gtrans (World.grownBy_alloc _ _ _) hg⟩

/-- A block that holds bytes, which may be written. -/
def Bk (w : World) (b : Nat) (l : List UInt8) : Prop := b < w.heap.size ∧ ∀ j (hj : j < l.length), w.cell? ⟨b, j, none⟩ = some (.int .u8 (l[j].toNat : Int)) ∧ w.frozen? ⟨b, j, none⟩ = false
theorem Bk.new (w : World) (s : ByteArray) (cap : Nat) (t : TypeId) (hi : Nat) : Bk (w.alloc (.cells (bytesRow s cap) t ((bytesRow s cap).size, hi))) w.heap.size s.data.toList := by
  refine ⟨by simp, fun j hj => ?_⟩
  have hj2 : j < s.data.size := by simpa using hj
  have hsz : s.data.size ≤ (bytesRow s cap).size := by unfold bytesRow; simp
  rw [World.cell?_alloc_mark, World.frozen?_alloc_mark, bytesRow_at s cap j hj2]
  refine ⟨by simp, ?_⟩
  rw [decide_eq_false (by omega), Bool.false_and]
theorem Bk.grown {w w' : World} {b g : Nat} {l : List UInt8} (h : Bk w b l) (hg : w.grownBy w' (some g)) (hne : b ≠ g) : Bk w' b l := by
  have hb := hg.block b h.1 (by intro h; injection h; omega)
  refine ⟨Nat.lt_of_lt_of_le h.1 hg.size, fun j hj => ?_⟩
  rw [World.cell?_of_block (w := w) (a := ⟨b, j, none⟩) hb, World.frozen?_of_block (w := w) (a := ⟨b, j, none⟩) hb]
  exact h.2 j hj
theorem Bk.set_ {w : World} {b : Nat} {l : List UInt8} (h : Bk w b l) (i : Nat) (c : UInt8) (hi : i < l.length) : Bk (w.setCell ⟨b, i, none⟩ (.int .u8 (c.toNat : Int))) b (l.set i c) := by
  refine ⟨by simpa using h.1, fun j hj => ?_⟩
  have hj2 : j < l.length := by simpa using hj
  rw [World.frozen?_setCell]
  refine ⟨?_, (h.2 j hj2).2⟩
  by_cases e : i = j
  · subst e
    rw [World.cell?_setCell_same _ _ _ (h.2 i hi).1]
    simp
  · rw [World.cell?_setCell_other _ _ _ _ (by intro h; injection h; omega), (h.2 j hj2).1]
    simp [e]
theorem Bk.back {w : World} {b : Nat} {l : List UInt8} (h : Bk w b l) (n cap : Nat) (hn : n = l.length) : (convert 22 9 (.slice (some ⟨b, 0, none⟩) n cap)).run Tryz.prog w = .ok (.string ⟨l.toArray⟩) w := by
  subst hn
  refine run_convert_bytes_back w 22 9 5 ⟨b, 0, none⟩ cap l Tryz.underlying22 Tryz.underlying5 Tryz.underlying9 (fun j hj => ?_)
  have e : (⟨b, 0, none⟩ : Addr).add j = ⟨b, j, none⟩ := by unfold Addr.add; split <;> simp_all
  rw [e]
  exact (h.2 j hj).1

theorem draw_quots {a b : Int} (a0 : 0 ≤ a) (a2 : a < 14) (b0 : 0 ≤ b) (b2 : b < 14) : ∃ G p q : Nat, Int.gcd (1 + a) (1 + b) = G ∧ ¬ (G : Int) = 0 ∧ (1 + a).tdiv (G : Int) = p ∧ (1 + b).tdiv (G : Int) = q ∧ 1 ≤ p ∧ 1 ≤ q ∧ p ≤ 14 ∧ q ≤ 14 := by
  have hG := Int.gcd_pos_of_ne_zero_right (1 + a) (show 1 + b ≠ 0 by omega)
  have p1 : 0 < (1 + a) / (Int.gcd (1 + a) (1 + b) : Nat) := Int.ediv_pos_of_pos_of_dvd (by omega) (by omega) (Int.gcd_dvd_left ..)
  have p2 : 0 < (1 + b) / (Int.gcd (1 + a) (1 + b) : Nat) := Int.ediv_pos_of_pos_of_dvd (by omega) (by omega) (Int.gcd_dvd_right ..)
  have p3 := quot_bd (M := 14) (show (0 : Int) < (Int.gcd (1 + a) (1 + b) : Nat) by omega) (x := 1 + a) (by omega) (Int.gcd_dvd_left ..)
  have p4 := quot_bd (M := 14) (show (0 : Int) < (Int.gcd (1 + a) (1 + b) : Nat) by omega) (x := 1 + b) (by omega) (Int.gcd_dvd_right ..)
  refine ⟨_, ((1 + a) / (Int.gcd (1 + a) (1 + b) : Nat)).toNat, ((1 + b) / (Int.gcd (1 + a) (1 + b) : Nat)).toNat, rfl, by omega, ?_, ?_, by omega, by omega, by omega, by omega⟩
  · rw [Int.tdiv_eq_ediv_of_nonneg (by omega)]; omega
  · rw [Int.tdiv_eq_ediv_of_nonneg (by omega)]; omega

def strLen : Value → Nat
  | .string s => s.size
  | _ => 0

set_option maxRecDepth 100000 in
set_option maxHeartbeats 4000000 in
theorem l23Draw_any (g B K : Nat) (w : World) (h : Src w g B (K + 40)) :
    Calls Tryz.prog 27 #[.pointer (some ⟨g, 0, none⟩)] w fun e w' => ∃ s : ByteArray, e = .returned (.string s) ∧ s.size ≤ 1000 ∧ Src w' g B K ∧ w.grownBy w' (some g) := by
  have hBg := h.base_
  have mixed : Tryz.prog.follows .mixedOrders = true := by kernel_rfl
  go_enter Tryz.func27, Tryz.ntmps27
  go_wp2_with fail
  refine (pick_any g B (K + 38) _ _ h).mono ?_
  rintro e w1 ⟨a, rfl, a0, a1, hs1, hg1⟩
  have a2 : a < 14 := by omega
  clear h a1
  go_wp2_with fail
  refine (pick_any g B (K + 36) _ _ hs1).mono ?_
  rintro e w2 ⟨b, rfl, b0, b1, hs2, hg2⟩
  have hG2 := gtrans hg1 hg2
  have b2 : b < 14 := by omega
  clear hs1 hg1 hg2 b1
  obtain ⟨G, p, q, e1, e2, e3, e4, p1, q1, p2, q2⟩ := draw_quots a0 a2 b0 b2
  have hGc := fun w => specGcdI_any (1 + a) (1 + b) w (by omega) (by omega) (by omega) (by omega)
  rw [e1] at hGc
  clear e1
  go_wp2_with fail
  refine (hGc _).mono ?_
  rintro e w3 ⟨rfl, rfl⟩
  clear hGc
  obtain ⟨s, hs, hsz⟩ : ∃ s : ByteArray, str (chr p q) = .string s ∧ s.size = p + q := ⟨⟨(chr p q).toArray⟩, rfl, chr_len p q⟩
  have cW : ∀ w, Calls Tryz.prog 44 #[.int .i64 p, .int .i64 q] w fun e w' => e = .returned (.string s) ∧ Below w.heap.size w w' := fun w => by
    rw [← hs]; exact l23Word_any p q w (by omega) (by omega)
  have cN : ∀ d os, Calls Tryz.prog 44 #[.int .i64 p, .int .i64 q] (grow (redrawn w2 d) os) fun e w'' => e = .returned (.string s) ∧ ∃ p : Regrown, w'' = grow (redrawn w2 p.d) p.os := fun d os => Calls.regrown_of (cW _)
  clear hs cW
  go_upto_region 4 with fail
  refine wp_region_quiet_below (by assumption) (by kernel_rfl) ?_
  repeat (first | go_big_quiet_step (with_reducible exact cN _ _) | quiet_step ((with_reducible exact cN _ _)))
  refine wpQuiet_nil ?_
  intro _ hw'
  obtain ⟨⟨dq, osq⟩, hw''⟩ := hw'
  subst hw''
  have hb3 := below_regrown w2 dq osq
  clear cN
  generalize grow (redrawn w2 dq) osq = w3 at *
  have hs3 := hs2.below_ hb3
  have hG3 := gbel hG2 hb3
  have s1 : 1 ≤ s.size := by omega
  have s2 : s.size ≤ 28 := by omega
  clear hs2 hG2 hb3 e2 e3 e4 p1 q1 p2 q2 hsz a0 a2 b0 b2
  go_wp2_with fail
  refine (pick_any g B (K + 34) _ _ hs3).mono ?_
  rintro e w5 ⟨v, rfl, v0, v1, hs5, hg5⟩
  have hG5 := gtrans hG3 hg5
  have hlt := hs5.lt
  clear hs3 hG3 hg5
  go_upto_block 0 with fail
  go_cut [6] (fun x wc => ∃ s : ByteArray, x = .string s ∧ 1 ≤ s.size ∧ s.size ≤ 56 ∧ Src wc g B (K + 20) ∧ w.grownBy wc (some g))
  case first =>
    rcases (show v = 0 ∨ v = 1 ∨ v = 2 ∨ 2 < v by omega) with rfl | rfl | rfl | h3
    · go_wp2_with fail
      refine (pick_any g B (K + 20) _ _ (hs5.less (by omega))).mono ?_
      rintro e w6 ⟨n, rfl, n0, n1, hs6, hg6⟩
      obtain ⟨j, rfl⟩ := Int.eq_ofNat_of_zero_le n0
      have n2 : (j : Int) ≤ s.size := by omega
      have hG6 := gtrans hG5 hg6
      have hz : (s.extract j s.size ++ s.extract 0 j).size = s.size := by simp; omega
      have HZ := hide hz
      clear hz hs5 hG5 hg6 n1
      go_wp2_with fail
      go_quiet (fail)
      go_wp2_with fail
      go_meet
      case rel => exact ⟨_, rfl, by rw [HZ.out]; exact s1, by rw [HZ.out]; omega, hs6, gtrans hG6 (gdrewN _ _ _)⟩
    · have hcv := fun w => run_bytes_of_string (P := Tryz.prog) w 9 22 5 s Tryz.underlying9 Tryz.underlying22 Tryz.underlying5
      go_wp2_with fail
      have hs5' : Src (w5.alloc (.cells (bytesRow s (grownCap w5 s.size 0 5)) 5 ((bytesRow s (grownCap w5 s.size 0 5)).size, (bytesRow s (grownCap w5 s.size 0 5)).size + 1))).drew g B (K + 34) := Src.alloc (w := w5) hs5 _
      have hG5' : w.grownBy (w5.alloc (.cells (bytesRow s (grownCap w5 s.size 0 5)) 5 ((bytesRow s (grownCap w5 s.size 0 5)).size, (bytesRow s (grownCap w5 s.size 0 5)).size + 1))).drew (some g) := gtrans hG5 (gtrans (World.grownBy_alloc _ _ _) (gdrew _ _))
      have hBk : Bk (w5.alloc (.cells (bytesRow s (grownCap w5 s.size 0 5)) 5 ((bytesRow s (grownCap w5 s.size 0 5)).size, (bytesRow s (grownCap w5 s.size 0 5)).size + 1))).drew w5.heap.size s.data.toList := Bk.new w5 s _ _ _
      have hbw : w.heap.size ≤ w5.heap.size := hG5.size
      generalize grownCap w5 s.size 0 5 = cap at *
      generalize (w5.alloc (.cells (bytesRow s cap) 5 ((bytesRow s cap).size, (bytesRow s cap).size + 1))).drew = w6 at *
      have hbg : w5.heap.size ≠ g := by omega
      have hBb : B ≤ w5.heap.size := by omega
      generalize w5.heap.size = bb at *
      clear hs5 hG5 hcv hlt
      refine (pick_any g B (K + 32) _ _ hs5').mono ?_
      rintro e w7 ⟨n, rfl, n0, n1, hs7, hg7⟩
      have hG7 := gtrans hG5' hg7
      have hB7 := hBk.grown hg7 hbg
      clear hs5' hG5' hBk hg7
      go_wp2_with fail
      refine (pick_any g B (K + 30) _ _ hs7).mono ?_
      rintro e w8 ⟨u, rfl, u0, u1, hs8, hg8⟩
      have hG8 := gtrans hG7 hg8
      have hB8 := hB7.grown hg8 hbg
      clear hs7 hG7 hB7 hg8
      obtain ⟨j, rfl⟩ := Int.eq_ofNat_of_zero_le n0
      have n2 : (j : Int) < s.size := by omega
      have hjl : j < s.data.toList.length := by simp; omega
      obtain ⟨c1, c2⟩ := hB8.2 j hjl
      have hlen : s.data.toList.length = s.size := by simp
      have hu : IntKind.u8.wrap (48 + u) = ((UInt8.ofNat (48 + u).toNat).toNat : Int) := by
        rcases (show u = 0 ∨ u = 1 by omega) with rfl | rfl <;> rfl
      have hst := (hB8.set_ j (UInt8.ofNat (48 + u).toNat) hjl).back s.size cap (by simp)
      generalize ((UInt8.ofNat (48 + u).toNat).toNat : Int) = z at *
      obtain ⟨s', hs', hz⟩ : ∃ s' : ByteArray, (⟨(s.data.toList.set j (UInt8.ofNat (48 + u).toNat)).toArray⟩ : ByteArray) = s' ∧ s'.size = s.size := ⟨_, rfl, by show Array.size _ = _; simp⟩
      rw [hs'] at hst
      generalize (s.data.toList[j].toNat : Int) = y at *
      have u2 : u < 2 := by omega
      have HZ := hide hz
      clear hs' hlen hjl hB8 n1 u1 hz
      go_wp2_with fail
      go_meet
      case rel => exact ⟨_, rfl, by rw [HZ.out]; exact s1, by rw [HZ.out]; omega, (hs8.cells_ _ _ (by omega) hBb _).less (by omega), gnew hG8 hbw _⟩
    · have hz : (s ++ s).size = s.size + s.size := by simp
      have HZ := hide hz
      clear hz
      go_wp2_with fail
      go_meet
      case rel => exact ⟨_, rfl, by rw [HZ.out]; omega, by rw [HZ.out]; omega, hs5.less (by omega), hG5⟩
    · have c0 : (v == 0) = false := by simp; omega
      have c1 : (v == 1) = false := by simp; omega
      have c2 : (v == 2) = false := by simp; omega
      go_wp2_with fail
      go_meet
      case rel => exact ⟨_, rfl, s1, by omega, hs5.less (by omega), hG5⟩
  case rest =>
    clear hs5 hG5 v0 v1 s1 s2 hlt
    obtain ⟨s, rfl, s1, s2, hs5, hG5⟩ := hcut
    rename_i wc
    go_wp2_with fail
    refine (pick_any g B (K + 18) _ _ hs5).mono ?_
    rintro e w6 ⟨v, rfl, v0, v1, hs6, hg6⟩
    have hG6 := gtrans hG5 hg6
    clear hs5 hG5 hg6
    rcases (show v = 0 ∨ v = 1 ∨ v = 2 ∨ v = 3 ∨ 3 < v by omega) with rfl | rfl | rfl | rfl | h3
    · go_wp2_with fail
      go_ret
      exact ⟨_, rfl, by show 0 ≤ 1000; omega, hs6.less (by omega), hG6⟩
    · go_wp2_with fail
      refine (text_new g B K [⟨#[50]⟩, ⟨#[32]⟩, ⟨#[97]⟩] _ 3 3 _ (hs6.less (by omega)) rfl rfl (by omega) (by omega) (by decide)).mono ?_
      rintro e w7 ⟨t, rfl, ht, hs7, hg7⟩
      have hz : (s ++ t).size = s.size + t.size := by simp
      have HZ := hide hz
      clear hz
      go_wp2_with fail
      go_ret
      exact ⟨_, rfl, by rw [HZ.out]; omega, hs7, gtrans hG6 hg7⟩
    · go_wp2_with fail
      go_loopw [6] (fun x wr => ∃ s : ByteArray, x = .string s ∧ 1 ≤ s.size ∧ s.size ≤ 798 ∧ wr = w6) (fun x _ => 400 - strLen x)
      case atStart => exact ⟨s, rfl, s1, by omega, rfl⟩
      case round =>
        clear s1 s2
        obtain ⟨s, rfl, s1, s2, rfl⟩ := hrel
        by_cases hlt : s.size < 400
        · have hz : (s ++ s).size = s.size + s.size := by simp
          have HZ := hide hz
          have i1 : (s.size : Int) < 400 := by omega
          clear hz
          go_wp2_with fail
          go_roundw
          case rel => exact ⟨_, rfl, by rw [HZ.out]; omega, by rw [HZ.out]; omega, trivial⟩
          case measure => simp only [strLen]; rw [HZ.out]; omega
        · have i1 : ¬ (s.size : Int) < 400 := by omega
          have i2 : (400 : Int) ≤ s.size := by omega
          have hz : (s.extract 0 400).size = 400 := by simp; omega
          have HZ := hide hz
          clear hz
          go_wp2_with fail
          go_ret
          exact ⟨_, rfl, by rw [HZ.out]; omega, hs6.less (by omega), hG6⟩
    · go_wp2_with fail
      refine (text_new g B K [⟨#[49]⟩, ⟨#[48]⟩, ⟨#[49, 49]⟩, ⟨#[48, 48, 48]⟩] _ 4 3 _ (hs6.less (by omega)) rfl rfl (by omega) (by omega) (by decide)).mono ?_
      rintro e w7 ⟨t, rfl, ht, hs7, hg7⟩
      go_wp2_with fail
      go_ret
      exact ⟨_, rfl, by omega, hs7, gtrans hG6 hg7⟩
    · have c0 : (v == 0) = false := by simp; omega
      have c1 : (v == 1) = false := by simp; omega
      have c2 : (v == 2) = false := by simp; omega
      have c3 : (v == 3) = false := by simp; omega
      go_wp2_with fail
      go_ret
      exact ⟨_, rfl, by omega, hs6.less (by omega), hG6⟩

end Go.Proofs.YthfhjgmlcilmkaaGreatDoor
