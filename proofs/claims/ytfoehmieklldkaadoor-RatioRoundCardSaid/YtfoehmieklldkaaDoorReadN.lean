/- The walks of checkDigits and readNat. -/
import Derived.Test.YtfoehmieklldkaaDoorTextN
import Derived.Test.YtfoehmieklldkaaDoorLongF
namespace Go.Proofs.YtfoehmieklldkaaDoor
open Go.RowKit

def digB (c : UInt8) : Bool := decide (48 ≤ c.toNat) && decide (c.toNat ≤ 57)
theorem digB_iff {c : UInt8} : digB c = true ↔ isDig c := by unfold digB isDig; simp
/-- digits without a 0 ahead of others -/
def numB (l : List UInt8) : Bool := l.all digB && (!l.isEmpty && (!(l.head? == some 48) || decide (l.length = 1)))
theorem numB_iff {l : List UInt8} : numB l = true ↔ (∀ c ∈ l, isDig c) ∧ l ≠ [] ∧ (l.head? = some 48 → l.length = 1) := by
  unfold numB
  rw [Bool.and_eq_true, Bool.and_eq_true, List.all_eq_true]
  refine and_congr ⟨fun h c hc => digB_iff.1 (h c hc), fun h c hc => digB_iff.2 (h c hc)⟩ (and_congr ?_ ?_)
  · cases l <;> simp
  · by_cases h : l.head? = some 48 <;> simp [h]
theorem numB_digits (n : Nat) : numB (Lib.decDigits n) = true := numB_iff.2 ⟨fun c hc => decDigits_mem n c hc, decDigits_ne n, decDigits_head n⟩
def numE (l : List UInt8) : Int := if numB l = true then 0 else 8
theorem all_take_false {l : List UInt8} {i : Nat} (h : i < l.length) (hd : digB l[i] = false) : numB l = false := by
  unfold numB
  have : l.all digB = false := by
    rw [List.all_eq_false]
    exact ⟨l[i], List.getElem_mem h, by simp [hd]⟩
  rw [this]
  rfl
theorem all_take_step {l : List UInt8} {i : Nat} (h : i < l.length) (ha : (l.take i).all digB = true) (hd : digB l[i] = true) : (l.take (i + 1)).all digB = true := by
  rw [List.take_succ_eq_append_getElem h, List.all_append, ha]
  simp [hd]

set_option maxRecDepth 100000 in
set_option maxHeartbeats 2000000 in
theorem checkDigits_any (s : ByteArray) (w : World) (hs : s.size ≤ 1000000) :
    Calls Tryd.prog 70 #[.string s] w fun e w' => e = .returned (.int .i64 (numE s.data.toList)) ∧ w = w' := by
  have hlen : s.data.toList.length = s.size := Array.length_toList
  have hget : ∀ i (h : i < s.size) (h2 : i < s.data.toList.length), s.data.toList[i]'h2 = s[i] := fun i h h2 => rfl
  obtain ⟨r, hr⟩ : ∃ r, r = numE s.data.toList := ⟨_, rfl⟩
  rw [← hr]
  have HR := Lib.hid hr
  have HLEN := Lib.hid hlen
  have HGET := Lib.hid hget
  clear hr hlen hget
  go_enter Tryd.func70, Tryd.ntmps70
  go_wp2_with fail
  go_loop [3, 6] (fun _ iv => ∃ i : Nat, iv = .int .i64 i ∧ i ≤ s.size ∧ (s.data.toList.take i).all digB = true) (fun _ iv => s.size - (intOf iv).toNat)
  case atStart => exact ⟨0, rfl, Nat.zero_le _, rfl⟩
  case round =>
    obtain ⟨i, rfl, hi, hall⟩ := hrel
    have HALL := Lib.hid hall
    clear hall
    by_cases hlt : i < s.size
    · have hlt2 : i < s.data.toList.length := by rw [HLEN.out]; exact hlt
      have hg := HGET.out i hlt hlt2
      have HG := Lib.hid hg
      clear hg
      by_cases h1 : s[i].toNat < 48
      · have hf : r = 8 := by
          rw [HR.out]
          unfold numE
          rw [if_neg]
          rw [all_take_false hlt2 (by rw [HG.out]; unfold digB; simp; omega)]
          simp
        subst hf
        go_wp2
        go_ret
        exact ⟨rfl, rfl⟩
      · by_cases h2 : 57 < s[i].toNat
        · have hf : r = 8 := by
            rw [HR.out]
            unfold numE
            rw [if_neg]
            rw [all_take_false hlt2 (by rw [HG.out]; unfold digB; simp; omega)]
            simp
          subst hf
          go_wp2
          go_ret
          exact ⟨rfl, rfl⟩
        · have hst := all_take_step hlt2 HALL.out (by rw [HG.out]; unfold digB; simp; omega)
          have HST := Lib.hid hst
          clear hst
          go_wp2
          go_round
          case rel => exact ⟨i + 1, by go_num, by omega, HST.out⟩
          case measure => simp [intOf]; omega
    · obtain rfl : s.size = i := by omega
      have htk : (s.data.toList.take s.size) = s.data.toList := List.take_of_length_le (by rw [HLEN.out]; exact Nat.le_refl _)
      have hall := HALL.out
      rw [htk] at hall
      by_cases h0 : s.size = 0
      · have hs0 : s.data.toList = [] := List.eq_nil_of_length_eq_zero (by rw [HLEN.out]; exact h0)
        have hsz : s = ⟨#[]⟩ := bs_inj hs0
        have hf : r = 8 := by
          rw [HR.out, hs0]
          rfl
        subst hf
        subst hsz
        clear hall htk HLEN HGET HR HALL hs0
        go_wp2
        go_ret
        exact ⟨rfl, rfl⟩
      · have hpos : 0 < s.size := by omega
        have hne : s.data.toList ≠ [] := by
          intro h
          have := HLEN.out
          rw [h, List.length_nil] at this
          omega
        have hhead : s.data.toList.head? = some s[0] := by
          rw [List.head?_eq_getElem?, List.getElem?_eq_getElem (by rw [HLEN.out]; exact hpos), HGET.out 0 hpos]
        have hnum : numB s.data.toList = (!(s[0] == 48) || decide (s.size = 1)) := by
          unfold numB
          rw [hall, hhead, HLEN.out]
          cases h : s.data.toList with
          | nil => exact absurd h hne
          | cons a b => simp
        have HNUM := Lib.hid hnum
        have e1 : s.toList.isEmpty = false := by
          rw [Lib.toList_data]
          cases h : s.data.toList with
          | nil => exact absurd h hne
          | cons a b => rfl
        have e2 : (!s.toList.isEmpty) = true := by rw [e1]; rfl
        have e3 : ¬ s.toList = [] := by rw [Lib.toList_data]; exact hne
        clear hall htk hne hhead hnum
        by_cases h48 : s[0] = 48
        · have h48n : s[0].toNat = 48 := by rw [h48]; rfl
          by_cases h1 : s.size = 1
          · have hf : r = 0 := by
              rw [HR.out]
              unfold numE
              rw [if_pos (by rw [HNUM.out, h48, h1]; rfl)]
            have d1 : decide (1 < (s.size : Int)) = false := by simp; omega
            have d2 : decide (1 < s.size) = false := by simp; omega
            subst hf
            clear h48
            go_wp2_with fail
            go_ret
            exact ⟨rfl, rfl⟩
          · have hf : r = 8 := by
              rw [HR.out]
              unfold numE
              rw [if_neg (by rw [HNUM.out, h48]; simp [h1])]
            have d1 : decide (1 < (s.size : Int)) = true := by simp; omega
            have d2 : decide (1 < s.size) = true := by simp; omega
            subst hf
            clear h48
            go_wp2_with fail
            go_ret
            exact ⟨rfl, rfl⟩
        · have h48n : s[0].toNat ≠ 48 := by
            intro h
            exact h48 (UInt8.toNat_inj.1 h)
          have hf : r = 0 := by
            rw [HR.out]
            unfold numE
            rw [if_pos (by rw [HNUM.out]; simp [h48])]
          have d1 : ((s[0].toNat : Int) == 48) = false := by simp; omega
          have d2 : (s[0].toNat == 48) = false := by simpa using h48n
          have d3 : ¬ (s[0].toNat : Int) = 48 := by omega
          subst hf
          clear h48
          go_wp2_with fail
          go_ret
          exact ⟨rfl, rfl⟩

/-- inside readNat: q bytes are to come -/
structure RdM (l : List UInt8) (w wr : World) (q : Nat) (z : ByteArray) (v : Value) (ds : List Int) : Prop where
  z : z = bs (l.take q)
  le : q ≤ l.length
  digs : Digs ds
  val : val ds = decV (l.drop q)
  len : (9 * ds.length + q = l.length) ∨ (q = 0 ∧ 9 * ds.length ≤ l.length + 8)
  own : wr.ownsRow w.heap.size 3 1 v ds.length (ds.map (Value.int .i64))
  below : Below w.heap.size w wr
theorem RdM.step {l : List UInt8} {w wr w' : World} {q k n : Nat} {z : ByteArray} {v v' : Value} {ds : List Int} (h : RdM l w wr q z v ds) (hd : ∀ c ∈ l, isDig c) (hq : 0 < q) (hk : k = q - 9) (hn : n = decV ((l.take q).drop k))
    (ho : w'.ownsRow w.heap.size 3 1 v' (ds.length + 1) (ds.map (Value.int .i64) ++ [.int .i64 (n : Nat)])) (hb : Below w.heap.size w w') : RdM l w w' k (bs (l.take k)) v' (ds ++ [(n : Int)]) := by
  have hle := h.le
  have hpl : ((l.take q).drop k).length = q - k := by rw [List.length_drop, List.length_take, Nat.min_eq_left h.le]
  have hpd : ∀ c ∈ (l.take q).drop k, isDig c := fun c hc => hd c (List.mem_of_mem_take (List.mem_of_mem_drop hc))
  have hlt := decV_lt _ hpd
  rw [hpl, ← hn] at hlt
  have hn9 : n < 1000000000 := by
    have h1 : 10 ^ (q - k) ≤ 10 ^ 9 := Nat.pow_le_pow_right (by omega) (by omega)
    omega
  have hlen := h.len
  refine ⟨rfl, by omega, Digs.append h.digs (fun d hd' => by rw [List.mem_singleton] at hd'; subst hd'; exact ⟨by omega, by omega⟩), ?_, ?_, by rw [List.length_append, List.map_append]; exact ho, hb⟩
  · have e : l.drop k = (l.take q).drop k ++ l.drop q := by
      have h1 : l.drop k = (l.drop k).take (q - k) ++ (l.drop k).drop (q - k) := (List.take_append_drop _ _).symm
      rw [h1, List.drop_drop, List.drop_take, show k + (q - k) = q by omega]
    rw [val_append, h.val, e, decV_append, ← hn, List.length_drop]
    have e2 : bsN ^ ds.length = 10 ^ (l.length - q) := by
      rw [show l.length - q = 9 * ds.length by omega, Nat.pow_mul]
      rfl
    rw [e2]
    simp only [Go.Proofs.YtfoehmieklldkaaDoor.val, Nat.mul_zero, Nat.add_zero, Int.toNat_natCast]
    rw [Nat.mul_comm (10 ^ (l.length - q)), Nat.add_comm]
  · rw [List.length_append, List.length_singleton]
    omega

set_option maxRecDepth 100000 in
set_option maxHeartbeats 4000000 in
theorem readNat_any (l : List UInt8) (K : Nat) (w : World) (hd : ∀ c ∈ l, isDig c) (hl : l.length ≤ 9 * K) (hK : K ≤ 50000) (hK1 : 1 ≤ K) :
    Calls Tryd.prog 71 #[.string (bs l)] w (NatPost (decV l) K w) := by
  have hM0 : RdM l w w l.length (bs l) (.slice none 0 0) [] := ⟨by rw [List.take_length], Nat.le_refl _, fun _ h => (by cases h), by rw [List.drop_length]; rfl, .inl (by simp), World.ownsRow_nil _ _ _ _, Below.refl _ _⟩
  have HM := Lib.hid hM0
  have HD := Lib.hid hd
  have hz : (bs l).size = l.length := bs_size l
  have HZ := Lib.hid hz
  generalize bs l = z0 at *
  clear hM0 hd hz
  go_enter Tryd.func71, Tryd.ntmps71
  go_wp2_with fail
  go_loopg [0, 3, 4, 5, 6] l.length (fun q sv av _ _ _ wr => ∃ z ds, sv = .string z ∧ RdM l w wr q z av ds)
  case atStart => exact ⟨z0, [], rfl, HM.out⟩
  case round =>
    clear HM
    obtain ⟨z, ds, rfl, hM⟩ := hrel
    have HM := Lib.hid hM
    have hzs : z.size = gk := by rw [hM.z, bs_size, List.length_take, Nat.min_eq_left hM.le]
    obtain ⟨va, vc, rfl⟩ := owns_slice hM.own
    have hgl : gk ≤ 450000 := by have := hM.le; omega
    by_cases h0 : gk = 0
    · subst h0
      have hds : ds.length ≤ K := by have := hM.len; omega
      have hsl : SliceAt 1 intR wr (.slice va ds.length vc) ds := slice_of_owns1 (Value.int .i64) hM.own (fun _ _ => rfl)
      have HT := Lib.hid (trimmed_any _ _ _ hsl (by omega))
      have hvv := hM.val
      rw [List.drop_zero] at hvv
      have HV := Lib.hid hvv
      have hz0 : z = ⟨#[]⟩ := by rw [hM.z, List.take_zero]; rfl
      subst hz0
      clear hM hsl hvv hzs
      go_wp2_with fail
      refine HT.out.mono ?_
      rintro e w2 ⟨a2, c2, rfl, rfl, hs2⟩
      have hn2 := trimD_nat hs2 HM.out.digs HV.out hds
      have HN := Lib.hid hn2
      clear hs2 hn2
      go_wp2_with fail
      go_ret
      exact ⟨a2, _, c2, rfl, HN.out, HM.out.below⟩
    · obtain ⟨k, hk⟩ : ∃ k, k = gk - 9 := ⟨_, rfl⟩
      obtain ⟨n, hn⟩ : ∃ n, n = decV ((l.take gk).drop k) := ⟨_, rfl⟩
      have hex1 : z.extract k gk = bs ((l.take gk).drop k) := bs_inj (by
        rw [Lib.extract_data, hM.z, bs_data, bs_data]
        exact List.take_of_length_le (by rw [List.length_drop, List.length_take]; omega))
      have hex2 : z.extract 0 k = bs (l.take k) := bs_inj (by
        rw [Lib.extract_data, hM.z, bs_data, bs_data, List.drop_zero, List.take_take]
        congr 1
        omega)
      have hpd : ∀ c ∈ (l.take gk).drop k, isDig c := fun c hc => HD.out c (List.mem_of_mem_take (List.mem_of_mem_drop hc))
      have hpl : ((l.take gk).drop k).length = gk - k := by rw [List.length_drop, List.length_take, Nat.min_eq_left hM.le]
      have hat := fun W => Tryd.strconv_Atoi (bs ((l.take gk).drop k)) (n : Nat) (by rw [bs_size, hpl]; omega) (by
        rw [bs_data, hn]
        exact atoi_dec hpd (by intro h; rw [h, List.length_nil] at hpl; omega)) W
      rw [← hex1] at hat
      have HAT := Lib.hid hat
      have HE2 := Lib.hid hex2
      have HK := Lib.hid hk
      have HN := Lib.hid hn
      have hgs : k ≤ gk := by omega
      have hbw := hM.below.size
      have hdl : ds.length ≤ 60000 := by have := hM.len; omega
      by_cases h9 : 9 ≤ gk
      · have r1 : (gk : Int) - 9 = (k : Int) := by omega
        have r2 : (0 : Int) ≤ (k : Int) := by omega
        clear hM hk hn hex1 hex2 hpd hpl hat
        go_wp2_with fail
        refine (HAT.out wr).mono ?_
        rintro e w2 ⟨rfl, t, hw2⟩
        have hb2 : Below wr.heap.size wr w2 := by rw [hw2]; exact below_bytesWorld _ _ _
        have HB2 := Lib.hid hb2
        have hown2 := owns_below HM.out.own hb2
        have HOWN := Lib.hid hown2
        have hbel2 := below_up HM.out.below hb2 HM.out.below.size
        have HBEL := Lib.hid hbel2
        have hBsz : w.heap.size ≤ w2.heap.size := hbel2.size
        clear hw2 hb2 hown2 hbel2
        go_wp2_with (at_builtin; go_must (refine append_one rfl _ _ 80 rfl w.heap.size 3 (.int .i64 0) 1 8 Tryd.underlying80 infoInt rfl (by decide) w w2 _ _ _ rfl HOWN.out _ rfl rfl rfl (by simp [Value.oneCell']) (by omega) (by omega) hBsz HBEL.out ?_); intro v' w6 ho hb6 _ _)
        go_roundg k
        case measure => omega
        case rel => exact ⟨_, _, by rw [HE2.out], HM.out.step HD.out (by omega) HK.out HN.out ho hb6⟩
      · have hk0 : k = 0 := by omega
        subst hk0
        have hmx : max (0 : Int) ((gk : Int) - 9) = 0 := by omega
        clear hM hk hn hex1 hex2 hpd hpl hat
        go_wp2_with fail
        refine (HAT.out wr).mono ?_
        rintro e w2 ⟨rfl, t, hw2⟩
        have hb2 : Below wr.heap.size wr w2 := by rw [hw2]; exact below_bytesWorld _ _ _
        have HB2 := Lib.hid hb2
        have hown2 := owns_below HM.out.own hb2
        have HOWN := Lib.hid hown2
        have hbel2 := below_up HM.out.below hb2 HM.out.below.size
        have HBEL := Lib.hid hbel2
        have hBsz : w.heap.size ≤ w2.heap.size := hbel2.size
        clear hw2 hb2 hown2 hbel2
        go_wp2_with (at_builtin; go_must (refine append_one rfl _ _ 80 rfl w.heap.size 3 (.int .i64 0) 1 8 Tryd.underlying80 infoInt rfl (by decide) w w2 _ _ _ rfl HOWN.out _ rfl rfl rfl (by simp [Value.oneCell']) (by omega) (by omega) hBsz HBEL.out ?_); intro v' w6 ho hb6 _ _)
        go_roundg 0
        case measure => omega
        case rel => exact ⟨_, _, by rw [List.take_zero]; rfl, HM.out.step HD.out (by omega) HK.out HN.out ho hb6⟩

end Go.Proofs.YtfoehmieklldkaaDoor
