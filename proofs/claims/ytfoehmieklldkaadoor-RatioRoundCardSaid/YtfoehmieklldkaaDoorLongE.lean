/- The walks of nat.by, divisor and lowest. -/
import Derived.Test.YtfoehmieklldkaaDoorLongD
import Derived.Test.YtfoehmieklldkaaDoorRatLaw
import Derived.Deep.LoopGhost
namespace Go.Proofs.YtfoehmieklldkaaDoor
open Go.RowKit

theorem nat_len0 {w : World} {a : Option Addr} {l c K : Nat} (h : NatAt w (.slice a l c) 0 K) : l = 0 := by
  obtain ⟨ds, hs, hd, ht, hv, _⟩ := h
  obtain ⟨a', c', e⟩ := SliceAt.len hs
  cases e
  by_cases h0 : ds = []
  · rw [h0]; rfl
  · have h1 := val_ge ds hd ht h0
    have h2 := bs_pos (ds.length - 1)
    omega
theorem nat_len1 {w : World} {a : Option Addr} {l c n K : Nat} (h : NatAt w (.slice a l c) n K) (hn : 0 < n) : 0 < l ∧ l ≤ K ∧ 1 ≤ K := by
  obtain ⟨ds, hs, hd, ht, hv, hl⟩ := h
  obtain ⟨a', c', e⟩ := SliceAt.len hs
  cases e
  have : ds ≠ [] := by rintro rfl; simp [val] at hv; omega
  have := List.length_pos_iff.2 this
  omega

theorem by_any (u v : Value) (n m K : Nat) (w : World) (hu : NatAt w u n K) (hv : NatAt w v m K) (hK : K ≤ 50000) (h0 : 0 < m) :
    Calls Tryd.prog 43 #[u, v] w (ByPost (n / m) (n % m) K w) := by
  by_cases h1 : n < m
  · exact by_lt u v n m K w hu hv (by omega) h1
  · by_cases h2 : m < bsN
    · obtain ⟨a, l, c, rfl⟩ : ∃ a l c, v = .slice a l c := NatAt.slice hv
      have h3 := nat_len1 hv h0
      exact by_one u _ n m K w hu (hv.shrink (by simpa using h2)) (by omega) h3.2.2 (by omega) h0
    · exact by_long u v n m K w hu hv hK (by omega) (by omega)

def GcdI (n m K : Nat) (w wr : World) (g : Nat) (a b : Value) : Prop := ∃ n', Nat.gcd n' g = Nat.gcd n m ∧ NatAt wr a n' K ∧ NatAt wr b g K ∧ Below w.heap.size w wr

set_option maxRecDepth 100000 in
set_option maxHeartbeats 2000000 in
theorem divisor_any (u v : Value) (n m K : Nat) (w : World) (hu : NatAt w u n K) (hv : NatAt w v m K) (hK : K ≤ 50000) :
    Calls Tryd.prog 42 #[u, v] w (NatPost (Nat.gcd n m) K w) := by
  obtain ⟨a, l, c, rfl⟩ : ∃ a l c, u = .slice a l c := NatAt.slice hu
  obtain ⟨a', l', c', rfl⟩ : ∃ a l c, v = .slice a l c := NatAt.slice hv
  have HI := Lib.hid (show GcdI n m K w w m _ _ from ⟨n, rfl, hu, hv, Below.refl _ _⟩)
  clear hu hv
  go_enter Tryd.func42, Tryd.ntmps42
  go_wp2_with fail
  go_loopg [0, 1, 5, 6] m (fun g av bv _ _ wr => GcdI n m K w wr g av bv)
  case atStart => exact HI.out
  case round =>
    clear HI
    obtain ⟨n', hg, ha, hb, hbw⟩ := hrel
    obtain ⟨a1, l1, c1, rfl⟩ := NatAt.slice ha
    obtain ⟨a2, l2, c2, rfl⟩ := NatAt.slice hb
    have HA := Lib.hid ha
    have HB := Lib.hid hb
    have HG := Lib.hid hg
    have HW := Lib.hid hbw
    by_cases h0 : gk = 0
    · subst h0
      obtain rfl : l2 = 0 := nat_len0 hb
      clear ha hb hg hbw
      go_wp2_with fail
      go_ret
      refine ⟨a1, l1, c1, rfl, ?_, HW.out⟩
      have := HG.out
      rw [Nat.gcd_zero_right] at this
      rw [← this]
      exact HA.out
    · obtain ⟨h1, h2, h3⟩ := nat_len1 hb (by omega)
      have HC := Lib.hid (by_any _ _ n' gk K _ ha hb hK (by omega))
      clear ha hb hg hbw
      go_wp2_with fail
      refine HC.out.mono ?_
      rintro e w2 ⟨b1, k1, d1, b2, k2, d2, rfl, hq, hr, hb2⟩
      have HR := Lib.hid hr
      have HB2 := Lib.hid hb2
      clear hq hr hb2
      go_wp2_with fail
      go_roundg (n' % gk)
      case measure => exact Nat.mod_lt _ (by omega)
      case rel => exact ⟨gk, by rw [← HG.out, Nat.gcd_comm, ← Nat.gcd_rec, Nat.gcd_comm], HB.out.below HB2.out, HR.out, below_up HW.out HB2.out HW.out.size⟩

end Go.Proofs.YtfoehmieklldkaaDoor
