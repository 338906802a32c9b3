/- The walk of the reader's 'part', where it reads a word. -/
import Derived.Test.YtogfekjopelfbaaPart
import Derived.Deep.DeepCutAuto
import Derived.Deep.CutBlock
namespace Go.Proofs.Ytogfekjopelfbaa
open Go.RowKit

theorem inWord_same (c : Int) (w : World) (v : Bool) (h : inWordI c = v) :
    Calls Try.prog 47 #[.int .u8 c] w fun e w' => e = .returned (.bool v) ∧ w' = w := by
  subst h; exact (inWord_any c w).mono fun e w' ⟨h1, h2⟩ => ⟨h1, h2.symm⟩

/-- at the head of the loop over the bytes of a word -/
structure RunInv (b : Nat) (s : ByteArray) (p1 n k : Nat) (w2 wr : World) : Prop where
  le : k ≤ n
  moved : Moved b s (p1 + k) w2 wr

theorem owns_single {w : World} {B g : Nat} {e : TypeId} {x y : Value} (h : Has w g #[x] e) (hB : B ≤ g) (hy : y = x) : w.ownsRow B e 1 (.slice (some ⟨g, 0, none⟩) 1 1) 1 [y] := by
  subst hy
  exact ⟨rfl, .inr ⟨g, 1, #[y], rfl, hB, h, Nat.le_refl _, by unfold maxLen; omega, rfl, rfl⟩⟩

/-- behind the statement that lays the word's slice -/
structure WordInv (b : Nat) (s : ByteArray) (q bx br g : Nat) (neg : Bool) (l : ByteArray) (w wx : World) : Prop where
  reader : Reader wx b s q
  box : Has wx bx #[.int .i64 0, .bool neg, .slice (some ⟨g, 0, none⟩) 1 1] 61
  res : Has wx br #[.int .i64 0, .bool false, .slice none 0 0] 61
  new : Has wx g #[.string l] 9
  grown : w.grownBy wx (some b)
  far : w.heap.size ≤ g ∧ g ≠ bx ∧ g ≠ br

set_option maxRecDepth 100000 in
set_option maxHeartbeats 2000000 in
theorem part_plain (b : Nat) (s : ByteArray) (p p1 n : Nat) (neg star : Bool) (w : World) (hR : Reader w b s p) (hp : p ≤ s.size) (hs : s.size ≤ 1048576)
    (hneg : nextIs s p 45 = neg) (hp1 : p1 = if neg then p + 1 else p) (hq : nextIs s p1 34 = false) (h1 : 1 ≤ n) (h30 : n ≤ 30) (hle : p1 + n ≤ s.size) (hrun : RunTo s p1 (p1 + n))
    (hstop : n = 30 ∨ s.size ≤ p1 + n ∨ ∃ h : p1 + n < s.size, inWordI (s[p1 + n].toNat : Int) = false) (hstar : nextIs s (p1 + n) 42 = star)
    (q : Nat) (kind : Int) (hqq : q = if star then p1 + n + 1 else p1 + n) (hkk : kind = if star then 2 else 0) :
    Calls Try.prog 27 #[.pointer (some ⟨b, 0, none⟩)] w (PartPost b s q kind neg [((s.extract p1 (p1 + n)).data.toList).map lowB] w) := by
  have HR := Lib.hid hR
  have HN := Lib.hid hneg
  have HP := Lib.hid hp1
  have HQ := Lib.hid hq
  have HRun := Lib.hid hrun
  have HStop := Lib.hid hstop
  have HStar := Lib.hid hstar
  have HQQ := Lib.hid hqq
  have HKK := Lib.hid hkk
  have hb : b < w.heap.size := hR.lt
  clear hR hneg hp1 hq hrun hstop hstar hqq hkk
  go_enter Try.func27, Try.ntmps27
  go_wp2_with fail
  refine (is_any b s p 45 _ (HR.out.alloc _) hp hs).mono ?_
  rintro e w1 ⟨rfl, hm⟩
  rw [HN.out, ← HP.out] at hm
  rw [HN.out]
  have hp1s : p1 ≤ s.size := by omega
  obtain ⟨c0, c1, f1⟩ := hm.reader.cells
  have hb1 : b < w1.heap.size := hm.reader.lt
  have HM := Lib.hid hm
  clear hm
  go_wp2_with fail
  refine (is_any b s p1 34 _ (HM.out.reader.alloc _) hp1s hs).mono ?_
  rintro e w2 ⟨rfl, hm⟩
  rw [HQ.out] at hm
  rw [HQ.out]
  simp only [Bool.false_eq_true, if_false] at hm
  have HM2 := Lib.hid hm
  clear hm
  clear c0 c1 f1
  go_upto_block 0 with fail
  go_cut [] (fun wx => Moved b s (p1 + n) w2 wx)
  case first =>
    go_wp2_with fail
    go_loopg [] n (fun g wr => ∃ k, g = n - k ∧ RunInv b s p1 n k w2 wr)
    case atStart => exact ⟨0, rfl, by omega, HM2.out.reader, grownBy_refl _ _⟩
    case round =>
      obtain ⟨k, rfl, hk, hm⟩ := hrel
      obtain ⟨d0, d1, g1⟩ := hm.reader.cells
      have HK := Lib.hid hm
      clear hm
      have s1 : IntKind.i64.wrap (((p1 + k : Nat) : Int) - (p1 : Int)) = (k : Int) := by rw [IntWalk.i64_in _ (by omega)]; omega
      have e1 : ((p1 + k : Nat) : Int) = (p1 : Int) + (k : Int) := by omega
      rw [e1] at s1 d1
      have s2 : (0 : Int) ≤ (p1 : Int) + (k : Int) := by omega
      have s3 : ((p1 : Int) + (k : Int)).toNat = p1 + k := by omega
      clear e1
      by_cases hlt : k < n
      · have l1 : p1 + k < s.size := by omega
        have hd1 : decide ((p1 : Int) + (k : Int) < (s.size : Int)) = true := by simp; omega
        have l2 : (p1 : Int) + (k : Int) < (s.size : Int) := by omega
        have hd2 : decide ((k : Int) < 30) = true := by simp; omega
        have hw : inWordI (s[p1 + k].toNat : Int) = true := HRun.out (p1 + k) _ (data_at s _ l1) (by omega) (by omega)
        have Hw := Lib.hid hw
        clear hw
        go_wp2_with fail
        go_quiet ((go_at_call 47; exact Calls.quiet_of_same (inWord_same _ _ true Hw.out)))
        go_wp2
        go_roundg (n - (k + 1))
        case measure => omega
        case rel => exact ⟨k + 1, rfl, by omega, (HK.out.reader.to _ (p1 + (k + 1)) (by omega)).drewN nq, grownBy_drewN (grownBy_trans HK.out.grown (grownBy_set _ _ _ _)) nq⟩
      · obtain rfl : k = n := by omega
        by_cases l1 : p1 + k < s.size
        · have hd1 : decide ((p1 : Int) + (k : Int) < (s.size : Int)) = true := by simp; omega
          have l2 : (p1 : Int) + (k : Int) < (s.size : Int) := by omega
          by_cases l3 : k < 30
          · have hd2 : decide ((k : Int) < 30) = true := by simp; omega
            have hw : inWordI (s[p1 + k].toNat : Int) = false := by
              rcases HStop.out with h | h | ⟨_, h⟩
              · omega
              · omega
              · exact h
            have Hw := Lib.hid hw
            clear hw
            go_wp2_with fail
            go_quiet ((go_at_call 47; exact Calls.quiet_of_same (inWord_same _ _ false Hw.out)))
            go_wp2_with fail
            go_meet
            case rel => exact ⟨HK.out.reader.drewN nq, grownBy_drewN HK.out.grown nq⟩
          · have hd2 : decide ((k : Int) < 30) = false := by simp; omega
            go_wp2_with fail
            go_quiet (fail)
            go_wp2_with fail
            go_meet
            case rel => exact ⟨HK.out.reader.drewN nq, grownBy_drewN HK.out.grown nq⟩
        · have hd1 : decide ((p1 : Int) + (k : Int) < (s.size : Int)) = false := by simp; omega
          go_wp2_with fail
          go_quiet (fail)
          go_wp2_with fail
          go_meet
          case rel => exact ⟨HK.out.reader.drewN nq, grownBy_drewN HK.out.grown nq⟩
  case rest =>
    have hbox : Has wc w1.heap.size #[.int .i64 0, .bool neg, .slice none 0 0] 61 := ((Has.new _ _ _).kept HM2.out.grown (by simp; omega)).kept hcut.grown (by simp; omega)
    have hsz : w.heap.size < w1.heap.size := Nat.lt_of_lt_of_le (by simp) HM.out.grown.size
    have hres : Has wc w.heap.size #[.int .i64 0, .bool false, .slice none 0 0] 61 :=
      ((((Has.new _ _ _).kept HM.out.grown (by simp; omega)).alloc _).kept HM2.out.grown (by simp; omega)).kept hcut.grown (by simp; omega)
    have hgw : w.grownBy wc (some b) := grownBy_trans (grownBy_alloc' (grownBy_refl w _) _) (grownBy_trans HM.out.grown (grownBy_trans (grownBy_alloc' (grownBy_refl w1 _) _) (grownBy_trans HM2.out.grown hcut.grown)))
    obtain ⟨d0, d1, g1⟩ := hcut.reader.cells
    have hbc : b < wc.heap.size := hcut.reader.lt
    have hlt1 : w1.heap.size < wc.heap.size := hbox.lt
    have hrl := hres.lt
    have k2 := hbox.cell 2
    have z2 := hbox.fz 2
    have HRd := Lib.hid hcut.reader
    have HBox := Lib.hid hbox
    have HRes := Lib.hid hres
    have HG := Lib.hid hgw
    clear hcut hbox hres hgw HM HM2 HR
    rw [show ((p1 + n : Nat) : Int) = (p1 : Int) + (n : Int) from by omega] at d1
    have t1 : (((p1 : Int) + (n : Int)) == (p1 : Int)) = false := beq_eq_false_iff_ne.2 (by omega)
    have s2 : (0 : Int) ≤ (p1 : Int) + (n : Int) := by omega
    have s3 : ((p1 : Int) + (n : Int)).toNat = p1 + n := by omega
    have s4 : (p1 : Int) + (n : Int) ≤ (s.size : Int) := by omega
    have s5 : (p1 : Int) ≤ (p1 : Int) + (n : Int) := by omega
    have hex : (s.extract p1 (p1 + n)).size ≤ 1048576 := Nat.le_trans (extract_size _ _ _) hs
    go_upto_region 16 with fail
    go_cut [] (fun wx => ∃ g, WordInv b s (p1 + n) w1.heap.size w.heap.size g neg (lowS (s.extract p1 (p1 + n))) w wx)
    case first =>
      go_region_with (go_at_call 48; refine (lower_any _ _ hex).mono ?_; rintro e w4 ⟨rfl, hb4⟩; have HB4 := Lib.hid hb4; have hc4 := bcell hb4; have q2 := (hc4.1 w1.heap.size 2 hlt1).trans k2; have y2 := (hc4.2 w1.heap.size 2 hlt1).trans z2; have hlt4 : w1.heap.size < w4.heap.size := Nat.lt_of_lt_of_le hlt1 hb4.size; clear hb4 hc4)
      all_goals
        go_wp2_with fail
        go_meet
        case rel =>
          have hb4 := HB4.out
          have hsz4 : wc.heap.size ≤ w4.heap.size := by simpa using hb4.size
          have e : ∀ (v : Value) (o : Obj), ((w4.setCell ⟨w1.heap.size, 2, none⟩ v).alloc o) = ((w4.setCell ⟨w1.heap.size, 2, none⟩ v).alloc o) := fun _ _ => rfl
          have b1 : Has w4 w1.heap.size #[.int .i64 0, .bool neg, .slice none 0 0] 61 := Has.below (w := wc.drew) HBox.out hb4 (by simpa using hlt1)
          have r1 : Has w4 w.heap.size #[.int .i64 0, .bool false, .slice none 0 0] 61 := Has.below (w := wc.drew) HRes.out hb4 (by simpa using hrl)
          have d1' : Reader w4 b s (p1 + n) := Has.below (w := wc.drew) HRd.out hb4 (by simpa using hbc)
          refine ⟨w4.heap.size, ?_, ?_, ?_, ?_, ?_, ⟨by omega, by omega, by omega⟩⟩
          · exact Has.alloc (Has.set_other d1' _ _ (by omega)) _
          · exact Has.alloc (Has.set b1 2 _) _
          · exact Has.alloc (Has.set_other r1 _ _ (by omega)) _
          · have := Has.new (w4.setCell ⟨w1.heap.size, 2, none⟩ (.slice (some ⟨w4.heap.size, 0, none⟩) 1 1)) #[.string (lowS (s.extract p1 (p1 + n)))] 9
            rw [World.size_setCell] at this
            exact this
          · exact grownBy_alloc' (grownBy_setc (grownBy_below (grownBy_drew' HG.out) hb4 (by simp; omega)) (.inl (by omega))) _
    case rest =>
      obtain ⟨g, hW⟩ := hcut
      clear d0 d1 g1 k2 z2 t1 s2 s3 s4 s5
      have HWd := Lib.hid hW
      go_wp2_with fail
      refine (is_any b s (p1 + n) 42 _ hW.reader (by omega) hs).mono ?_
      rintro e w5 ⟨rfl, hm⟩
      rw [HStar.out] at hm
      rw [HStar.out]
      have hb5 := (hW.box.kept hm.grown (by have := hW.box.lt; simp; omega))
      have hr5 := (hW.res.kept hm.grown (by simp; omega))
      have hn5 := (hW.new.kept hm.grown (by have := hW.far.1; simp; omega))
      have k0 := hb5.cell 0
      have k1 := hb5.cell 1
      have k2 := hb5.cell 2
      have z0 := hb5.fz 0
      have r0 := hr5.cell 0
      have r1 := hr5.cell 1
      have r2 := hr5.cell 2
      have v0 := hr5.fz 0
      have v1 := hr5.fz 1
      have v2 := hr5.fz 2
      have hn3 : ¬ w1.heap.size = w.heap.size := by omega
      have HM := Lib.hid hm
      have HN5 := Lib.hid hn5
      have HB5 := Lib.hid hb5
      have HR5 := Lib.hid hr5
      clear hm hb5 hr5 hn5 hW
      cases star with
      | true =>
        have hq : q = p1 + n + 1 := HQQ.out
        have hk : kind = 2 := HKK.out
        subst hq hk
        clear HQQ HKK
        go_wp2
        refine bodyPost_ret (v := .tuple #[.agg #[.int .i64 2, .bool neg, .slice (some ⟨g, 0, none⟩) 1 1], .bool true]) (by simp [results, Try.results27, go_sem, k0, k1, k2, r0, r1, r2, v0, v1, v2, hn3]) rfl ?_
        refine ⟨_, rfl, ?_, ?_, ?_⟩
        · repeat refine Has.set_other ?_ _ _ (by omega)
          exact HM.out.reader
        · repeat refine grownBy_setc ?_ (.inl (by omega))
          exact grownBy_trans HWd.out.grown HM.out.grown
        · refine owns_single ?_ HWd.out.far.1 rfl
          repeat refine Has.set_other ?_ _ _ (by have := HWd.out.far; omega)
          exact HN5.out
      | false =>
        have hq : q = p1 + n := HQQ.out
        have hk : kind = 0 := HKK.out
        subst hq hk
        clear HQQ HKK
        go_wp2
        refine bodyPost_ret (v := .tuple #[.agg #[.int .i64 0, .bool neg, .slice (some ⟨g, 0, none⟩) 1 1], .bool true]) (by simp [results, Try.results27, go_sem, k0, k1, k2, r0, r1, r2, v0, v1, v2, hn3]) rfl ?_
        refine ⟨_, rfl, ?_, ?_, ?_⟩
        · repeat refine Has.set_other ?_ _ _ (by omega)
          exact HM.out.reader
        · repeat refine grownBy_setc ?_ (.inl (by omega))
          exact grownBy_trans HWd.out.grown HM.out.grown
        · refine owns_single ?_ HWd.out.far.1 rfl
          repeat refine Has.set_other ?_ _ _ (by have := HWd.out.far; omega)
          exact HN5.out

end Go.Proofs.Ytogfekjopelfbaa
