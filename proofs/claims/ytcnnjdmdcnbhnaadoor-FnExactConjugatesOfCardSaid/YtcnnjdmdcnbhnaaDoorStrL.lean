/- Lists of strings as the laws compare, mark and read them again. -/
import Derived.Test.YtcnnjdmdcnbhnaaDoorHeld
import Derived.Test.YtcnnjdmdcnbhnaaDoorStr
import Derived.Laws.IdiomStrings
import Derived.Lib.QuietBelow
namespace Go.Proofs.YtcnnjdmdcnbhnaaDoor
open Go.RowKit Go.Sort

def ssl (l : List ByteArray) : List Value := l.map Value.string
theorem ssl_len (l : List ByteArray) : (ssl l).length = l.length := by simp [ssl]
theorem ssl_append (a b : List ByteArray) : ssl (a ++ b) = ssl a ++ ssl b := by simp [ssl]
theorem ssl_at {l : List ByteArray} {i : Nat} (h : i < l.length) : (ssl l)[i]? = some (.string l[i]) := by simp [ssl, h]
theorem one_ssl (l : List ByteArray) : ∀ u ∈ ssl l, u.oneCell' = true := by
  intro u hu
  simp only [ssl, List.mem_map] at hu
  obtain ⟨z, _, rfl⟩ := hu
  rfl

/-- The decimal digits of j, ahead of a text. -/
def dg (j : Nat) (s : ByteArray) : ByteArray :=
  if _h : j = 0 then s else dg (j / 10) (⟨#[UInt8.ofNat (48 + j % 10)]⟩ ++ s)
termination_by j
decreasing_by omega
theorem dg_zero (s : ByteArray) : dg 0 s = s := by unfold dg; simp
theorem dg_succ {j : Nat} (h : j ≠ 0) (s : ByteArray) : dg j s = dg (j / 10) (⟨#[UInt8.ofNat (48 + j % 10)]⟩ ++ s) := by
  conv => lhs; unfold dg
  rw [dif_neg h]
def mtx (k : Nat) : ByteArray := ⟨#[109]⟩ ++ dg k ⟨#[]⟩

set_option maxRecDepth 100000 in
theorem markText_any (k : Nat) (w : World) (h0 : 1 ≤ k) (h1 : k ≤ 2000000000) :
    Calls Tryd.prog 13 #[.int .i64 k] w fun e w' => e = .returned (.string (mtx k)) ∧ Below w.heap.size w w' := by
  obtain ⟨R, hR⟩ : ∃ R, mtx k = R := ⟨_, rfl⟩
  have HR := hide hR
  rw [hR]
  clear hR
  go_enter Tryd.func13, Tryd.ntmps13
  go_wp2
  go_loopw [0, 3] (fun a b wr => ∃ (j : Nat) (s : ByteArray), a = .int .i64 j ∧ b = .string s ∧ s.size + j ≤ k ∧ dg j s = dg k ⟨#[]⟩ ∧ Below w.heap.size w wr) (fun a _ _ => (intOf a).toNat)
  case atStart => exact ⟨k, ⟨#[]⟩, rfl, rfl, by show 0 + k ≤ k; omega, rfl, Below.refl _ _⟩
  case round =>
    obtain ⟨j, s, rfl, rfl, hsz, hd, hbel⟩ := hrel
    by_cases hj : j = 0
    · subst hj
      rw [dg_zero] at hd
      have hR := HR.out
      unfold mtx at hR
      rw [← hd] at hR
      have HR2 := hide hR
      have hl : s.size ≤ 2000000000 := by omega
      clear hd hR HR
      go_wp2
      go_ret
      exact ⟨by rw [← HR2.out]; first | done | rfl, hbel⟩
    · obtain ⟨r, hr⟩ : ∃ r, j % 10 = r := ⟨_, rfl⟩
      have hr10 : r < 10 := by omega
      have et : ((j : Int)).tmod 10 = (r : Int) := by rw [Int.tmod_eq_emod_of_nonneg (by omega)]; omega
      have eq : ((j : Int)).tdiv 10 = ((j / 10 : Nat) : Int) := by rw [Int.tdiv_eq_ediv_of_nonneg (by omega)]; omega
      rw [dg_succ hj, hr] at hd
      obtain ⟨c, hc⟩ : ∃ c : UInt8, UInt8.ofNat (48 + r) = c := ⟨_, rfl⟩
      have hu : IntKind.u8.wrap (48 + (r : Int)) = (c.toNat : Int) := by
        subst hc
        rw [show IntKind.u8.wrap (48 + (r : Int)) = (48 + (r : Int)) % 256 from rfl]
        simp
      rw [hc] at hd
      have hstr : (convert 36 9 (.slice (some ⟨wr.heap.size, 0, none⟩) 1 1)).run Tryd.prog (wr.alloc (.cells #[.int .u8 (c.toNat : Int)] 5)) = .ok (.string ⟨[c].toArray⟩) (wr.alloc (.cells #[.int .u8 (c.toNat : Int)] 5)) := run_convert_bytes_back (P := Tryd.prog) (wr.alloc (.cells #[.int .u8 (c.toNat : Int)] 5)) 36 9 5 ⟨wr.heap.size, 0, none⟩ 1 [c] Tryd.underlying36 Tryd.underlying5 Tryd.underlying9 (fun i hi => by
        obtain rfl : i = 0 := by simpa using hi
        exact news_new (w := wr) (cs := #[.int .u8 (c.toNat : Int)]) (t := 5) rfl 0 _ rfl)
      obtain ⟨S, hS⟩ : ∃ S : ByteArray, (⟨#[c]⟩ : ByteArray) = S := ⟨_, rfl⟩
      have hSz : S.size = 1 := by rw [← hS]; rfl
      rw [show (⟨[c].toArray⟩ : ByteArray) = S from hS] at hstr
      rw [hS] at hd
      have hz : (S ++ s).size = s.size + 1 := by simp; omega
      have HZ := hide hz
      have HD := hide hd
      generalize (c.toNat : Int) = z at *
      have hq : j / 10 < j := by omega
      obtain ⟨j', hj'⟩ : ∃ j', j / 10 = j' := ⟨_, rfl⟩
      rw [hj'] at eq hq HD
      have hl : s.size ≤ 2000000000 := by omega
      have h10 : ¬ (j : Int) = 0 := by omega
      clear hc hS hz hd hr hj'
      go_wp2
      go_roundw
      case rel => exact ⟨j', S ++ s, by first | rfl | go_num, rfl, by rw [HZ.out]; omega, HD.out, hbel.alloc hbel.size _⟩
      case measure => simp [intOf]; omega

theorem eqStringS_any (A1 A2 : Option Addr) (n c1 c2 B : Nat) (xs : List ByteArray) (w : World) (hn : n ≤ 9223372036854775807) (h1 : Rd w B 1 A1 n (ssl xs)) (h2 : Rd w B 1 A2 n (ssl xs)) :
    Calls Tryd.prog 6 #[.slice A1 n c1, .slice A2 n c2] w fun e w' => e = .returned (.bool true) ∧ ∃ m, w' = w.drewN m := by
  have hl : xs.length = n := by have := h1.1; rw [ssl_len] at this; omega
  go_enter Tryd.func6, Tryd.ntmps6
  go_wp2
  go_loopw [5] (fun i wr => ∃ k m : Nat, i = .int .i64 k ∧ k ≤ n ∧ wr = w.drewN m) (fun i _ => n - (intOf i).toNat)
  case atStart => exact ⟨0, 0, rfl, by omega, rfl⟩
  case round =>
    obtain ⟨k, m, rfl, hk, rfl⟩ := hrel
    by_cases hlt : k < n
    · obtain ⟨b1, o1, rfl, _, e1⟩ := h1.cell hlt
      obtain ⟨b2, o2, rfl, _, e2⟩ := h2.cell hlt
      rw [ssl_at (by omega)] at e1 e2
      generalize xs[k] = x at *
      have hkz : (k : Int) < (n : Int) := by omega
      have hx := bn_self x
      clear h1 h2 hl
      go_wp2
      go_quiet (fail)
      go_wp2
      go_roundw
      case rel => exact ⟨k + 1, _, by go_num, by omega, rfl⟩
      case measure => simp [intOf]; omega
    · go_wp2
      go_ret
      exact ⟨rfl, _, rfl⟩

/-- The marks k, k + 1, .. of n strings. -/
def smarks (k n : Nat) : List ByteArray := (List.range n).map fun i : Nat => mtx (k + i)
theorem smarks_len (k n : Nat) : (smarks k n).length = n := by simp [smarks]
theorem smarks_at {k n i : Nat} (h : i < n) : (ssl (smarks k n))[i]? = some (.string (mtx (k + i))) := by
  rw [ssl_at (by rw [smarks_len]; exact h)]
  simp [smarks]
theorem smarks_succ (k n : Nat) : smarks k (n + 1) = smarks k n ++ [mtx (k + n)] := by simp [smarks, List.range_succ]
theorem smarks_step {k : Nat} {xs : List ByteArray} {j : Nat} (h : j < xs.length) : (ssl (smarks k j ++ xs.drop j)).set j (.string (mtx (k + j))) = ssl (smarks k (j + 1) ++ xs.drop (j + 1)) := by
  rw [ssl_append, List.set_append_right _ _ (by rw [ssl_len, smarks_len]; exact Nat.le_refl _), ssl_len, smarks_len, Nat.sub_self, List.drop_eq_getElem_cons h, smarks_succ, ssl_append, ssl_append, List.append_assoc]
  rfl
theorem smarks_get {k : Nat} {xs : List ByteArray} {j : Nat} (h : j < xs.length) : (ssl (smarks k j ++ xs.drop j))[j]? = some (.string xs[j]) := by
  unfold ssl
  rw [List.getElem?_map, List.getElem?_append_right (by rw [smarks_len]; exact Nat.le_refl _), smarks_len, Nat.sub_self]
  simp [h]

set_option maxHeartbeats 1000000 in
theorem markStringS_any (g n cap : Nat) (xs : List ByteArray) (k : Nat) (w : World) (hk : 1 ≤ k ∧ k ≤ 1000000000) (hn : n ≤ 1000000000) (h : Row w g 9 1 n cap (ssl xs)) :
    Calls Tryd.prog 7 #[.slice (some ⟨g, 0, none⟩) n cap, .int .i64 k] w fun e w' => e = .returned (.int .i64 (k + n)) ∧ Row w' g 9 1 n cap (ssl (smarks k n)) ∧ w.grownBy w' (some g) := by
  have hl : xs.length = n := by have := h.len; rw [ssl_len] at this; omega
  have mixed : Tryd.prog.follows .mixedOrders = true := by kernel_rfl
  go_enter Tryd.func7, Tryd.ntmps7
  go_wp2
  go_loopw [1, 5] (fun a i wr => ∃ j : Nat, i = .int .i64 j ∧ a = .int .i64 ((k : Int) + j) ∧ j ≤ n ∧ Row wr g 9 1 n cap (ssl (smarks k j ++ xs.drop j)) ∧ w.grownBy wr (some g)) (fun _ i _ => n - (intOf i).toNat)
  case atStart => exact ⟨0, rfl, by simp, by omega, by simpa [smarks] using h, gbelow (Below.refl _ _) _⟩
  case round =>
    obtain ⟨j, rfl, rfl, hj, hrow, hgr⟩ := hrel
    by_cases hlt : j < n
    · have hM := fun w => markText_any (k + j) w (by omega) (by omega)
      have e : ((k + j : Nat) : Int) = (k : Int) + j := by omega
      rw [e] at hM
      obtain ⟨S, hS⟩ : ∃ S, mtx (k + j) = S := ⟨_, rfl⟩
      rw [hS] at hM
      have hst := fun w' (hrow : Row w' g 9 1 n cap (ssl (smarks k j ++ xs.drop j))) => hrow.store j (.string S)
      rw [← hS, smarks_step (by omega)] at hst
      rw [hS] at hst
      have HS := hide hst
      have HW := hide hrow
      have hget := smarks_get (k := k) (xs := xs) (j := j) (by omega)
      have HG := hide hget
      have hglt := hrow.lt
      clear hst hrow h hS e hget
      go_wp2_with fail
      refine (hM _).mono ?_
      rintro e w1 ⟨rfl, hb1⟩
      have hr1 := HW.out.below hb1 hglt
      have hc := hr1.cell HG.out
      have hf := hr1.frozen j
      have HR := hide (HS.out _ hr1)
      have hg1 := gtrans hgr (gbelow hb1 (some g))
      generalize xs[j]'(by omega) = x at hc
      clear hr1 hb1 hM HS HW HG hgr hl
      go_wp2
      go_roundw
      case rel => exact ⟨j + 1, by go_num, by simp; omega, by omega, HR.out, gset hg1 _ _⟩
      case measure => simp [intOf]; omega
    · have hjn : j = n := by omega
      subst hjn
      rw [← hl, List.drop_length, List.append_nil, hl] at hrow
      have HR := hide hrow
      clear hrow h hl
      go_wp2
      go_ret
      exact ⟨rfl, HR.out, hgr⟩

theorem heldStringS_any (A : Option Addr) (n c B k : Nat) (w : World) (hB : B ≤ w.heap.size) (hk : 1 ≤ k ∧ k ≤ 1000000000) (hn : n ≤ 1000000000) (h : Rd w B 1 A n (ssl (smarks k n))) :
    Calls Tryd.prog 8 #[.slice A n c, .int .i64 k] w fun e w' => e = .returned (.int .i64 (k + n)) ∧ Below w.heap.size w w' := by
  have mixed : Tryd.prog.follows .mixedOrders = true := by kernel_rfl
  go_enter Tryd.func8, Tryd.ntmps8
  go_wp2
  go_loopw [1, 5] (fun a i wr => ∃ j : Nat, i = .int .i64 j ∧ a = .int .i64 ((k : Int) + j) ∧ j ≤ n ∧ Below w.heap.size w wr) (fun _ i _ => n - (intOf i).toNat)
  case atStart => exact ⟨0, rfl, by simp, by omega, Below.refl _ _⟩
  case round =>
    obtain ⟨j, rfl, rfl, hj, hbel⟩ := hrel
    by_cases hlt : j < n
    · have hM := fun w => markText_any (k + j) w (by omega) (by omega)
      have e : ((k + j : Nat) : Int) = (k : Int) + j := by omega
      rw [e] at hM
      obtain ⟨b, o, rfl, hb, e1⟩ := (h.more hB).cell hlt
      rw [smarks_at hlt] at e1
      generalize mtx (k + j) = S at *
      have hx := bn_self S
      have e2 : wr.cell? ⟨b, o + j, none⟩ = some (.string S) := (hbel.cell (p := ⟨b, o + j, none⟩) hb).trans e1
      have x0 : ∀ d os, (grow (redrawn wr d) os).cell? ⟨b, o + j, none⟩ = some (.string S) := fun d os => cell_regrown e2 d os
      have cN : ∀ d os, Calls Tryd.prog 13 #[.int .i64 ((k : Int) + j)] (grow (redrawn wr d) os) fun e w'' => e = .returned (.string S) ∧ ∃ p : Regrown, w'' = grow (redrawn wr p.d) p.os := fun d os => Calls.regrown_of (hM _)
      have i1 : (j : Int) < (n : Int) := by omega
      clear h e hM e1 e2 hb
      go_wp2_with fail
      refine wp_region_quiet_below (by assumption) (by kernel_rfl) ?_
      repeat (first | go_big_quiet_step (with_reducible exact cN _ _) | quiet_step ((with_reducible exact cN _ _)))
      refine wpQuiet_nil ?_
      intro _ hw'
      obtain ⟨⟨dq, osq⟩, hw''⟩ := hw'
      subst hw''
      have hb3 := below_regrown wr dq osq
      generalize grow (redrawn wr dq) osq = wn at *
      have hbn := bstep hbel hb3 hbel.size
      clear x0 cN hb3
      go_wp2_with fail
      go_roundw
      case rel => exact ⟨j + 1, by go_num, by simp; omega, by omega, hbn⟩
      case measure => simp [intOf]; omega
    · have hjn : j = n := by omega
      subst hjn
      clear h
      go_wp2
      go_ret
      exact ⟨rfl, hbel⟩

/-- A list of strings that a call made behind block B, or nil. -/
def LstS (w : World) (B : Nat) (v : Value) (xs : List ByteArray) : Prop :=
  ∃ A n cap, v = .slice A n cap ∧ n = xs.length ∧ n ≤ 1000000000 ∧ ((A = none ∧ n = 0) ∨ ∃ g, A = some ⟨g, 0, none⟩ ∧ B ≤ g ∧ Row w g 9 1 n cap (ssl xs))

theorem LstS.nil_ (w : World) (B : Nat) : LstS w B (.slice none 0 0) [] := ⟨none, 0, 0, rfl, rfl, by omega, .inl ⟨rfl, rfl⟩⟩
theorem LstS.of_row {w : World} {B g n cap : Nat} {xs : List ByteArray} (h : Row w g 9 1 n cap (ssl xs)) (hB : B ≤ g) (hn : n ≤ 1000000000) : LstS w B (.slice (some ⟨g, 0, none⟩) n cap) xs :=
  ⟨_, n, cap, rfl, by have := h.len; rw [ssl_len] at this; omega, hn, .inr ⟨g, rfl, hB, h⟩⟩
theorem LstS.of_own {w : World} {B n : Nat} {v : Value} {xs : List ByteArray} (h : w.ownsRow B 9 1 v n (ssl xs)) (hn : n ≤ 1000000000) : LstS w B v xs := by
  have hl : n = xs.length := by have := h.1; rw [ssl_len] at this; omega
  rcases h.2 with ⟨rfl, h0⟩ | ⟨g, cap, cur, rfl, hb, r⟩
  · exact ⟨none, 0, 0, rfl, by omega, by omega, .inl ⟨rfl, rfl⟩⟩
  · exact ⟨_, n, cap, rfl, hl, hn, .inr ⟨g, rfl, hb, (Row.of_own h).1⟩⟩
theorem LstS.keep {w w' : World} {B : Nat} {v : Value} {xs : List ByteArray} (h : LstS w B v xs) (hb : Below w.heap.size w w') : LstS w' B v xs := by
  obtain ⟨A, n, cap, e, hn, hn2, h | ⟨g, hA, hg, hr⟩⟩ := h
  · exact ⟨A, n, cap, e, hn, hn2, .inl h⟩
  · exact ⟨A, n, cap, e, hn, hn2, .inr ⟨g, hA, hg, hr.below hb hr.lt⟩⟩
theorem LstS.drewN {w : World} {B : Nat} {v : Value} {xs : List ByteArray} (h : LstS w B v xs) (m : Nat) : LstS (w.drewN m) B v xs := h
theorem LstS.rd {w : World} {B : Nat} {A : Option Addr} {n cap : Nat} {xs : List ByteArray} (hn : n = xs.length) (h : (A = none ∧ n = 0) ∨ ∃ g, A = some ⟨g, 0, none⟩ ∧ B ≤ g ∧ Row w g 9 1 n cap (ssl xs)) : Rd w w.heap.size 1 A n (ssl xs) := by
  rcases h with ⟨_, h0⟩ | ⟨g, rfl, _, hr⟩
  · exact ⟨by rw [ssl_len]; omega, fun h => by omega⟩
  · exact hr.rd

theorem eqLstS_any (v1 v2 : Value) (B1 B2 : Nat) (xs : List ByteArray) (w : World) (h1 : LstS w B1 v1 xs) (h2 : LstS w B2 v2 xs) :
    Calls Tryd.prog 6 #[v1, v2] w fun e w' => e = .returned (.bool true) ∧ ∃ m, w' = w.drewN m := by
  obtain ⟨A1, n, c1, rfl, hn, hb, h1⟩ := h1
  obtain ⟨A2, n2, c2, rfl, hn2, _, h2⟩ := h2
  obtain rfl : n2 = n := by omega
  exact eqStringS_any A1 A2 n2 c1 c2 _ xs w (by omega) (LstS.rd hn h1) (LstS.rd hn2 h2)

theorem markLstS_any (v : Value) (B : Nat) (xs : List ByteArray) (w : World) (h : LstS w B v xs) :
    Calls Tryd.prog 7 #[v, .int .i64 1] w fun e w' => e = .returned (.int .i64 (1 + xs.length)) ∧ LstS w' B v (smarks 1 xs.length) ∧ Below B w w' := by
  obtain ⟨A, n, cap, rfl, hn, hb, ⟨rfl, h0⟩ | ⟨g, rfl, hg, hr⟩⟩ := h
  · subst h0
    rw [← hn]
    clear hn hb
    go_enter Tryd.func7, Tryd.ntmps7
    go_wp2
    go_loopw [1, 5] (fun a i wr => a = .int .i64 1 ∧ i = .int .i64 0 ∧ wr = w) (fun _ _ _ => 0)
    case atStart => exact ⟨rfl, rfl, rfl⟩
    case round =>
      obtain ⟨rfl, rfl, rfl⟩ := hrel
      go_wp2
      go_ret
      exact ⟨rfl, ⟨none, 0, cap, rfl, rfl, by omega, .inl ⟨rfl, rfl⟩⟩, Below.refl _ _⟩
  · rw [← hn]
    refine (markStringS_any g n cap xs 1 w (by omega) hb hr).mono ?_
    rintro e w' ⟨rfl, hr2, hgr⟩
    exact ⟨rfl, ⟨_, n, cap, rfl, by rw [smarks_len], hb, .inr ⟨g, rfl, hg, hr2⟩⟩, (Below.refl B w).grown hgr (by have := hr.lt; omega) (fun k h => by simp at h; omega)⟩

theorem heldLstS_any (v : Value) (B n : Nat) (w : World) (h : LstS w B v (smarks 1 n)) :
    Calls Tryd.prog 8 #[v, .int .i64 1] w fun e w' => e = .returned (.int .i64 (1 + n)) ∧ Below w.heap.size w w' := by
  obtain ⟨A, n2, cap, rfl, hn, hb, h⟩ := h
  have hr := LstS.rd hn h
  rw [smarks_len] at hn
  subst hn
  exact heldStringS_any A n2 cap _ 1 w (Nat.le_refl _) (by omega) hb hr

end Go.Proofs.YtcnnjdmdcnbhnaaDoor
