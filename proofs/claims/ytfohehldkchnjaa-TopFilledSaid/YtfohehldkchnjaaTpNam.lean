/- The walks of checkPairs's look at a name: strings.ContainsFunc over bytes of a name. -/
import Derived.Test.YtfohehldkchnjaaTpFld
import Derived.Laws.RangeString
namespace Go.Proofs.Ytfohehldkchnjaa
open Go.RowKit

theorem nameB_low {c : UInt8} (h : nameB c = true) : c.toNat < 128 := by
  unfold nameB at h
  simp at h
  omega
set_option maxRecDepth 100000 in
set_option maxHeartbeats 1000000 in
theorem cp1_any (c : UInt8) (h : nameB c = true) (w : World) :
    Calls Try.prog 25 #[.int .i32 (c.toNat : Int)] w fun e w' => e = .returned (.bool false) ∧ w' = w := by
  have HN := Lib.hid (nameByte_any c (c.toNat : Int) rfl w)
  rw [h] at HN
  have hl := nameB_low h
  obtain ⟨n, hn⟩ : ∃ n : Nat, n = c.toNat := ⟨_, rfl⟩
  rw [← hn] at HN hl ⊢
  have hd : decide ((128 : Int) ≤ (n : Int)) = false := decide_eq_false (by omega)
  have hw : IntKind.u8.wrap (n : Int) = (n : Int) := by
    have h1 : ((n : Int)) % 256 = n := by omega
    simp [IntKind.wrap, IntKind.signed, IntKind.bits]
    omega
  clear hn h
  go_enter Try.func25, Try.ntmps25
  go_wp2_with fail
  refine HN.out.mono ?_
  rintro e w2 ⟨rfl, rfl⟩
  go_wp2_with fail
  go_ret
  exact ⟨rfl, rfl⟩
set_option maxRecDepth 100000 in
set_option maxHeartbeats 1000000 in
theorem indexFunc_name (u : List UInt8) (h : ∀ c ∈ u, nameB c = true) (hl : u.length ≤ 1000) (w : World) :
    Calls Try.prog 47 #[.string (bs u), .func (.func 25) #[] #[], .bool true] w fun e w' => e = .returned (.int .i64 (-1)) ∧ Below w.heap.size w w' := by
  have hz : (bs u).size = u.length := bs_size u
  have HG := Lib.hid (fun (i : Nat) (hi : i < (bs u).size) => (show nameB (bs u)[i] = true from h _ (by
    have e : (bs u)[i] = u[i]'(by rw [← hz]; exact hi) := rfl
    rw [e]
    exact List.getElem_mem _)))
  generalize bs u = s at *
  have hs : s.size ≤ 1000 := by omega
  clear hz h hl
  go_enter Try.func47, Try.ntmps47
  go_wp2_with fail
  go_loopg [] s.size (fun n wx => ∃ pos, n = s.size - pos ∧ pos ≤ s.size ∧ wx = w.iter s pos)
  case atStart => exact ⟨0, rfl, Nat.zero_le _, rfl⟩
  case round =>
    obtain ⟨pos, rfl, hp, rfl⟩ := hrel
    by_cases hps : pos < s.size
    · have hnb := HG.out pos hps
      have ha := nameB_low hnb
      have hnx := fun ty => run_next_ascii (P := Try.prog) w s pos ty hps ha
      have HC := Lib.hid (cp1_any s[pos] hnb)
      clear hnb ha
      go_wp2_with fail
      refine (HC.out _).mono ?_
      rintro e w2 ⟨rfl, rfl⟩
      go_wp2_with fail
      go_roundg (s.size - (pos + 1))
      case measure => omega
      case rel => exact ⟨pos + 1, rfl, hps, rfl⟩
    · have hnx := fun ty => run_next_end (P := Try.prog) w s pos ty hps
      go_wp2_with fail
      go_ret
      exact ⟨rfl, (Below.refl _ w).alloc (Nat.le_refl _) _⟩
set_option maxRecDepth 100000 in
theorem containsFunc_name (u : List UInt8) (h : ∀ c ∈ u, nameB c = true) (hl : u.length ≤ 1000) (w : World) :
    Calls Try.prog 24 #[.string (bs u), .func (.func 25) #[] #[]] w fun e w' => e = .returned (.bool false) ∧ Below w.heap.size w w' := by
  have HI := Lib.hid (show ∀ w, Calls Try.prog 35 #[.string (bs u), .func (.func 25) #[] #[]] w fun e w' => e = .returned (.int .i64 (-1)) ∧ Below w.heap.size w w' from fun w => by
    have HX := Lib.hid (indexFunc_name u h hl w)
    go_enter Try.func35, Try.ntmps35
    go_wp2_with fail
    refine HX.out.mono ?_
    rintro e w2 ⟨rfl, hb⟩
    go_wp2_with fail
    go_ret
    exact ⟨rfl, hb⟩)
  go_enter Try.func24, Try.ntmps24
  go_wp2_with fail
  refine (HI.out w).mono ?_
  rintro e w2 ⟨rfl, hb⟩
  go_wp2_with fail
  go_ret
  exact ⟨rfl, hb⟩
end Go.Proofs.Ytfohehldkchnjaa
