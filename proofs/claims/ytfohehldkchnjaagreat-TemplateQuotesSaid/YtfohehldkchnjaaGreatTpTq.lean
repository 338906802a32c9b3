/- The walk of portkeep2.TemplateQuotes. -/
import Derived.Test.YtfohehldkchnjaaGreatTpTopL
import Derived.Test.YtfohehldkchnjaaGreatTpQuote
namespace Go.Proofs.YtfohehldkchnjaaGreat
open Go.RowKit

theorem awakeT_any (w : World) : Calls Tryz.prog 4 #[] w fun e w' => e = .returned (.bool true) ∧ Below w.heap.size w w' := by
  have HW := Lib.hid (Words_any ⟨#[97]⟩ w (by decide))
  go_enter Tryz.func4, Tryz.ntmps4
  go_wp2_with fail
  refine HW.out.mono ?_
  rintro e w2 ⟨a, c, rfl, ho, hb⟩
  have HB := Lib.hid hb
  have hl : (wordsS ⟨#[97]⟩).length = 1 := by decide
  rw [hl]
  clear ho hb
  go_wp2_with fail
  go_ret
  exact ⟨rfl, HB.out⟩
set_option maxRecDepth 100000 in
set_option maxHeartbeats 4000000 in
/-- a template with no field has no names -/
theorem Fields_none (e : List UInt8) (t : ByteArray) (w : World) (h : TpOk [] e t) (hc : tcode t = 0) :
    Calls Tryz.prog 7 #[.string t] w fun en w' => (∃ a c, en = .returned (.tuple #[.slice a 0 c, .int .i64 0])) ∧ Below w.heap.size w w' := by
  have HT := Lib.hid (template_any [] e t w h)
  have HC := Lib.hid hc
  have hrl : (readF [] e).length ≤ 100000 := by have h1 := readF_length [] e; simp at h1; omega
  have hnl : namesF (readF [] e) = [] := by rw [namesF_read [] e (by simp)]; rfl
  clear h hc
  go_enter Tryz.func7, Tryz.ntmps7
  go_wp2_with fail
  refine HT.out.mono ?_
  rintro en w2 ⟨a, n, c, rfl, hb2, hf⟩
  obtain ⟨rfl, hF⟩ := hf HC.out
  have HB2 := Lib.hid hb2
  have HN := Lib.hid (names_any (readF [] e) _ w2 hF hrl)
  rw [HC.out]
  clear hb2 hf hF
  generalize (readF [] e).length = n at *
  go_wp2_with fail
  refine HN.out.mono ?_
  rintro en w3 ⟨⟨a3, c3, rfl, _⟩, hb3⟩
  have HB3 := Lib.hid (below_up HB2.out hb3 HB2.out.size)
  rw [hnl]
  clear hb3 hnl
  simp only [List.length_nil]
  go_wp2_with fail
  refine (Tryz.slices_Sort_string_none _ _ _).mono ?_
  rintro en w4 ⟨rfl, rfl⟩
  go_wp2_with fail
  refine (Tryz.slices_Compact_string_empty _ _ _).mono ?_
  rintro en w5 ⟨rfl, rfl⟩
  go_wp2_with fail
  go_ret2
  exact ⟨⟨_, _, rfl⟩, HB3.out⟩
def fdX : Fd := ⟨[120], 0, [], []⟩
theorem fdX_ok : FdOk fdX := ⟨by decide, by decide, by decide, .inl ⟨rfl, rfl, rfl⟩, by simp [fdX], by simp [fdX]⟩
theorem plain_x (T : ByteArray) (h : tcode T = 0) : T.size ≤ 20000 ∧ (tcode (T ++ ⟨#[123, 123, 120, 125, 125]⟩) = 0 ∨ tcode (T ++ ⟨#[123, 123, 120, 125, 125]⟩) = 4) := by
  unfold tcode at h
  split at h
  · cases h
  · rename_i h1
    split at h
    · rename_i h2
      refine ⟨by omega, ?_⟩
      unfold tcode
      split
      · exact .inr rfl
      · refine .inl (if_pos ?_)
        have e : (T ++ (⟨#[123, 123, 120, 125, 125]⟩ : ByteArray)).data.toList = T.data.toList ++ [123, 123, 120, 125, 125] := by simp [ByteArray.data_append]
        rw [e]
        unfold plainF at h2 ⊢
        rw [List.all_append, h2]
        rfl
    · cases h
set_option maxRecDepth 100000 in
set_option maxHeartbeats 8000000 in
theorem quotes_walk (s v : ByteArray) (w : World) (hs : s.size ≤ 140737488351232) (hv : v.size ≤ 140737488351232) :
    Calls Tryz.prog 3 #[.string s, .string v] w fun e w' => e = .returned (.bool true) ∧ Below w.heap.size w w' := by
  go_enter Tryz.func3, Tryz.ntmps3
  go_wp2_with fail
  refine (awakeT_any w).mono ?_
  rintro e w2 ⟨rfl, hb2⟩
  have HB2 := Lib.hid hb2
  clear hb2
  go_wp2_with fail
  refine (Quote_any s w2 (by omega)).mono ?_
  rintro e w3 ⟨rfl, hb3⟩
  have HB3 := Lib.hid (below_up HB2.out hb3 HB2.out.size)
  have hqs := quo_le s.data.toList
  have hqg := quo_ge' s.data.toList
  have hsl : s.data.toList.length = s.size := by simp
  have hvl : v.data.toList.length = v.size := by simp
  obtain ⟨T, hT⟩ : ∃ T : ByteArray, T = ⟨(quo s.data.toList).toArray⟩ := ⟨_, rfl⟩
  have hTs : T.size = (quo s.data.toList).length := by rw [hT]; simp [ByteArray.size]
  have hTd : T.data.toList = quo s.data.toList := by rw [hT]
  have HOK := Lib.hid (show TpOk [] s.data.toList T from ⟨by omega, by simp, by simp, hTd, by simp, by omega⟩)
  have HOX := Lib.hid (show TpOk [(s.data.toList, fdX)] [] (T ++ ⟨#[123, 123, 120, 125, 125]⟩) from ⟨by rw [ByteArray.size_append]; show T.size + 5 ≤ _; omega, by simp, fun x hx => by
    obtain rfl := List.mem_singleton.1 hx
    exact fdX_ok, by
      rw [ByteArray.data_append, Array.toList_append, hTd]
      simp [tplT, fldT, midT, fdX, quo], fun x hx => by
    obtain rfl := List.mem_singleton.1 hx
    show s.data.toList.length ≤ _
    omega, by simp⟩)
  rw [← hT]
  clear hT hTd hb3
  go_wp2_with fail
  refine (CheckTemplate_any _ _ T _ HOK.out).mono ?_
  rintro e w4 ⟨rfl, hb4⟩
  have HB4 := Lib.hid (below_up HB3.out hb4 HB3.out.size)
  clear hb4
  rcases tcode_cases T with hc | hc | hc
  · have HC := Lib.hid hc
    obtain ⟨hT2, hx⟩ := plain_x T hc
    have HX := Lib.hid hx
    have HF := Lib.hid (Fields_none _ T w4 HOK.out hc)
    rw [hc]
    clear hc hx
    go_wp2_with fail
    refine HF.out.mono ?_
    rintro e w5 ⟨⟨fa, fc, rfl⟩, hb5⟩
    have HB5 := Lib.hid (below_up HB4.out hb5 HB4.out.size)
    clear hb5
    go_wp2_with fail
    refine (Fill_any [] _ T [] _ _ HOK.out (.inl ⟨none, 0, rfl, rfl⟩) ⟨by simp, by simp, by simp, by simp⟩ (by simp)).mono ?_
    rintro e w6 ⟨o, k, rfl, hb6, _, h2⟩
    have HB6 := Lib.hid (below_up HB5.out hb6 HB5.out.size)
    clear hb6
    rcases h2 HC.out with ⟨_, _, h3⟩ | ⟨rfl, rfl⟩
    · exfalso
      rcases h3 with ⟨x, hx, _⟩ | h3
      · cases hx
      · rw [fillT] at h3
        omega
    · clear h2
      have hss : (s.toList == s.toList) = true := beq_self_eq_true _
      have hsv : ((s ++ v).toList == (s ++ v).toList) = true := beq_self_eq_true _
      rw [fillT, show bs s.data.toList = s from rfl]
      have HPX := Lib.hid (show Prs (w6.alloc (.cells #[.string ⟨#[120]⟩, .string v] 33)) (.slice (some ⟨w6.heap.size, 0, none⟩) 1 1) [([120], v.data.toList)] from
        slice_of_owns encP (World.ownsRow_lit (base := w6.heap.size) (e := 33) (size := 2) w6 #[.string ⟨#[120]⟩, .string v] 1 (Nat.le_refl _) (by unfold maxLen; omega) rfl) (fun _ _ => rfl) (fun _ _ => rfl))
      have HBX := Lib.hid (HB6.out.alloc HB6.out.size (.cells #[.string ⟨#[120]⟩, .string v] 33))
      have HFX := Lib.hid (Fill_any _ _ _ [([120], v.data.toList)] _ _ HOX.out HPX.out ⟨by simp, by simp [nameB], by simp, by simp; omega⟩ (by simp [fdX]))
      clear HPX
      go_upto_region 9 with fail
      go_wp2_with fail
      refine HFX.out.mono ?_
      rintro e w7 ⟨o, k, rfl, hb7, h1, h2⟩
      have HB7 := Lib.hid (below_up HBX.out hb7 HBX.out.size)
      clear hb7
      have hk : k = 4 ∨ k = 0 ∧ o = s ++ v := by
        rcases HX.out with hx | hx
        · rcases h2 hx with ⟨rfl, _⟩ | ⟨rfl, rfl⟩
          · exact .inl rfl
          · refine .inr ⟨rfl, ?_⟩
            apply ByteArray.ext
            simp [bs, fillT, fdX, valF, lookF, lookL, ByteArray.data_append]
        · exact .inl ((h1 (by rw [hx]; decide)).2.trans hx)
      clear h1 h2
      rcases hk with rfl | ⟨rfl, rfl⟩
      · go_wp2_with fail
        go_ret
        exact ⟨rfl, HB7.out⟩
      · go_wp2_with fail
        go_ret
        exact ⟨rfl, HB7.out⟩
  · rw [hc]
    clear hc
    go_wp2_with fail
    go_ret
    exact ⟨rfl, HB4.out⟩
  · rw [hc]
    clear hc
    go_wp2_with fail
    go_ret
    exact ⟨rfl, HB4.out⟩
end Go.Proofs.YtfohehldkchnjaaGreat
