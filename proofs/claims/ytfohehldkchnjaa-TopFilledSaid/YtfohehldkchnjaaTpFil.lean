/- The walk of know.Fill at a template that is made of quoted texts and fields, and pairs that name them. -/
import Derived.Test.YtfohehldkchnjaaTpTpl2
import Derived.Test.YtfohehldkchnjaaTpPrs2
namespace Go.Proofs.Ytfohehldkchnjaa
open Go.RowKit

def lookF (L : List PrD) (x : List UInt8) : List UInt8 := (lookL L x).getD []
theorem quo_ge' (l : List UInt8) : l.length ≤ (quo l).length := by rw [quo_length]; omega
theorem fldT_ge {f : Fd} (h : FdOk f) : f.one.length ≤ (fldT f).length ∧ f.two.length ≤ (fldT f).length := by
  unfold fldT midT
  rcases h.kind with ⟨h1, h2, h3⟩ | ⟨h1, h3⟩ | h1
  · rw [h2, h3]; simp
  · rw [if_pos h1, h3]; simp; omega
  · rw [if_neg (by omega), if_pos h1]; simp; omega
theorem read_small : ∀ (segs : List (List UInt8 × Fd)) (e : List UInt8), (∀ x ∈ segs, FdOk x.2) → ∀ f ∈ readF segs e, f.one.length ≤ (tplT segs e).length ∧ f.two.length ≤ (tplT segs e).length ∧ (f.name = [] ∨ f.name ∈ segs.map (·.2.name)) ∧ (f.name = [] ∨ f.kind = 0 ∨ f.kind = 124 ∨ f.kind = 63) ∧ f.name.length ≤ 20
  | [], e, _, f, hf => by
    have h := quo_ge' e
    simp only [readF, txtF] at hf
    split at hf
    · cases hf
    · obtain rfl := List.mem_singleton.1 hf
      exact ⟨h, by simp, .inl rfl, .inl rfl, by simp⟩
  | (p, g) :: r, e, hok, f, hf => by
    have hg : FdOk g := hok _ List.mem_cons_self
    have h1 := quo_ge' p
    have h2 := fldT_ge hg
    have hl : (tplT ((p, g) :: r) e).length = (quo p).length + ((fldT g).length + (tplT r e).length) := by simp [tplT]
    rw [hl]
    unfold readF at hf
    rcases List.mem_append.1 hf with q | q
    · unfold txtF at q
      split at q
      · cases q
      · obtain rfl := List.mem_singleton.1 q
        exact ⟨by show p.length ≤ _; omega, by simp, .inl rfl, .inl rfl, by simp⟩
    · rcases List.mem_cons.1 q with q | q
      · subst q
        refine ⟨by omega, by omega, .inr (by simp), .inr ?_, hg.few⟩
        rcases hg.kind with ⟨k, _, _⟩ | ⟨k, _⟩ | k
        · exact .inl k
        · exact .inr (.inl k)
        · exact .inr (.inr k)
      · obtain ⟨a, b, c, d, k⟩ := read_small r e (fun x hx => hok x (List.mem_cons_of_mem _ hx)) f q
        refine ⟨by omega, by omega, ?_, d, k⟩
        rcases c with c | c
        · exact .inl c
        · exact .inr (by simp only [List.map_cons]; exact List.mem_cons_of_mem _ c)
theorem outF_len (look : List UInt8 → List UInt8) : ∀ l : List Fd, (∀ f ∈ l, (valF (look f.name) f).length ≤ 20000) → (outF look l).length ≤ l.length * 20000
  | [], _ => by simp [outF]
  | f :: r, h => by
    have h1 := h f List.mem_cons_self
    have h2 := outF_len look r (fun x hx => h x (List.mem_cons_of_mem _ hx))
    rw [outF_cons, List.length_append, List.length_cons]
    omega
theorem outF_snoc (look : List UInt8 → List UInt8) (l : List Fd) (i : Nat) (hi : i < l.length) : outF look (l.take (i + 1)) = outF look (l.take i) ++ valF (look l[i].name) l[i] := by
  rw [List.take_succ_eq_append_getElem hi, outF_append]
  simp [outF]
structure FiI (L : List PrD) (l : List Fd) (G : Nat) (w3 wr : World) (i : Nat) : Prop where
  le : i ≤ l.length
  bld : BuildsAt wr G (outF (lookF L) (l.take i))
  below : Below G w3 wr
def FiPost (segs : List (List UInt8 × Fd)) (e : List UInt8) (s : ByteArray) (L : List PrD) (w : World) (en : Ending) (w' : World) : Prop :=
  ∃ o k, en = .returned (.tuple #[.string o, .int .i64 k]) ∧ Below w.heap.size w w' ∧ (tcode s ≠ 0 → o = ⟨#[]⟩ ∧ k = tcode s) ∧ (tcode s = 0 → (k = 4 ∧ o = ⟨#[]⟩ ∧ ((∃ x ∈ L, 20000 < x.2.length) ∨ 40000 < (fillT (lookF L.reverse) segs e).length)) ∨ (k = 0 ∧ o = bs (fillT (lookF L.reverse) segs e)))
set_option maxRecDepth 100000 in
set_option maxHeartbeats 16000000 in
theorem Fill_any (segs : List (List UInt8 × Fd)) (e : List UInt8) (s : ByteArray) (L : List PrD) (v : Value) (w : World) (h : TpOk segs e s) (hp : Prs w v L) (hk : PrsOk L) (hin : ∀ x ∈ segs, x.2.name ∈ L.map (·.1)) :
    Calls Try.prog 7 #[.string s, v] w (FiPost segs e s L w) := by
  obtain ⟨va, vc, rfl⟩ := SliceAt.len hp
  have HT := Lib.hid (template_any segs e s w h)
  have HP := Lib.hid hp
  have HK := Lib.hid hk
  have HSM := Lib.hid (read_small segs e h.ok)
  have HTX := Lib.hid h.text
  have HIN := Lib.hid hin
  have HRL := Lib.hid (show (readF segs e).length ≤ 81 by have h1 := readF_length segs e; have h2 := h.few; omega)
  have hrd := out_read (lookF L.reverse) segs e
  clear h hp hk hin
  go_enter Try.func7, Try.ntmps7
  go_wp2_with fail
  refine HT.out.mono ?_
  rintro en w2 ⟨fa, fn, fc, rfl, hb2, hf2⟩
  have HB2 := Lib.hid hb2
  have HP2 := Lib.hid (HP.out.below hb2)
  by_cases htc : tcode s = 0
  rotate_left
  · have qz : (tcode s != 0) = true := by simpa using htc
    have qz2 : (tcode s == 0) = false := by simpa using htc
    have HTC := Lib.hid htc
    clear htc hb2 hf2 HT hrd
    generalize hgt : tcode s = tc at *
    have HGT := Lib.hid hgt
    clear hgt
    go_wp2_with fail
    go_ret2
    exact ⟨_, _, rfl, HB2.out, fun _ => ⟨rfl, HGT.out.symm⟩, fun q => absurd (HGT.out.symm.trans q) HTC.out⟩
  obtain ⟨rfl, hfl⟩ := hf2 htc
  have HTC := Lib.hid htc
  have HF2 := Lib.hid hfl
  have HSZ := Lib.hid (show (tplT segs e).length ≤ 20000 from by
    rw [← HTX.out]
    unfold tcode at htc
    by_cases g : 20000 < s.size
    · rw [if_pos g] at htc
      cases htc
    · have : s.data.toList.length = s.size := by simp
      omega)
  have HCP := Lib.hid (checkPairs_any L _ w2 HP2.out HK.out)
  rw [htc]
  obtain ⟨l, hl⟩ : ∃ l, l = readF segs e := ⟨_, rfl⟩
  rw [← hl] at HF2 HRL hrd HSM ⊢
  have HLE := Lib.hid hl
  have HRD := Lib.hid hrd
  clear htc hb2 hfl HT HP hl hf2 hrd
  go_wp2_with fail
  refine HCP.out.mono ?_
  rintro en w3 ⟨m, k, rfl, hb3, hcase⟩
  have HB3 := Lib.hid (below_up HB2.out hb3 HB2.out.size)
  have HF3 := Lib.hid (HF2.out.below hb3)
  clear hb3 HCP HF2 HB2 HP2
  rcases hcase with ⟨rfl, rfl, hbg⟩ | ⟨rfl, hsm, b, rfl, hmp⟩
  · have HBG := Lib.hid hbg
    clear hbg
    go_wp2_with fail
    go_ret2
    exact ⟨_, _, rfl, HB3.out, fun q => absurd HTC.out q, fun _ => .inl ⟨rfl, rfl, .inl HBG.out⟩⟩
  have HM3 := Lib.hid hmp
  have HVS := Lib.hid hsm
  have hbl3 : b < w3.heap.size := hmp.lt
  obtain ⟨G, hG⟩ : ∃ G, G = w3.heap.size := ⟨_, rfl⟩
  have hbn := BuildsAt.new w3
  have hbb := (Below.refl w3.heap.size w3).alloc (Nat.le_refl _) (.cells #[.pointer none, .slice none 0 0] 46)
  rw [← hG] at hbn hbb hbl3
  have HI0 := Lib.hid (show FiI L.reverse l G w3 (w3.alloc (.cells #[.pointer none, .slice none 0 0] 46)) 0 from ⟨Nat.zero_le _, by simpa [outF] using hbn, hbb⟩)
  have HG := Lib.hid hG
  have HVL := Lib.hid (show ∀ f ∈ l, (valF (lookF L.reverse f.name) f).length ≤ 20000 from fun f hf => by
    have hz := HSZ.out
    obtain ⟨h1, h2, _⟩ := HSM.out f hf
    unfold valF
    split
    · omega
    · split
      · omega
      · unfold lookF
        cases hlk : lookL L.reverse f.name with
        | none => simp
        | some u =>
          have hmem : ∀ {M : List PrD} {x u : List UInt8}, lookL M x = some u → (x, u) ∈ M := by
            intro M
            induction M with
            | nil => intro x u q; cases q
            | cons y r ih =>
              intro x u q
              obtain ⟨k, v⟩ := y
              unfold lookL at q
              split at q
              · rename_i e1
                cases q
                rw [e1]
                exact List.mem_cons_self
              · exact List.mem_cons_of_mem _ (ih q)
          exact hsm _ (List.mem_reverse.1 (hmem hlk)))
  have HIS := Lib.hid (show ∀ f ∈ l, f.name ≠ [] → (lookL L.reverse f.name).isSome = true from fun f hf hne => by
    obtain ⟨_, _, h3, _⟩ := HSM.out f hf
    rcases h3 with h3 | h3
    · exact absurd h3 hne
    · obtain ⟨x, hx, hxe⟩ := List.mem_map.1 h3
      have h4 := HIN.out x hx
      obtain ⟨y, hy, hye⟩ := List.mem_map.1 h4
      have hap := HK.out.apart
      have h5 := look_mem (l := L.reverse) (k := y.1) (v := y.2) (by rw [List.map_reverse]; exact List.pairwise_reverse.2 (hap.imp Ne.symm)) (List.mem_reverse.2 hy)
      rw [← hxe, ← hye, h5]
      rfl)
  have hrl := HRL.out
  clear hmp hsm hbn hbb hG
  go_upto_region 8 with fail
  rw [← HG.out]
  generalize w3.alloc (.cells #[.pointer none, .slice none 0 0] 46) = w30 at *
  generalize hLR : L.reverse = LR at *
  have HLR := Lib.hid hLR
  clear hLR
  go_wp2_with fail
  go_loopw [34] (fun iv wr => ∃ i : Nat, iv = .int .i64 ((i : Nat) : Int) ∧ FiI LR l G w3 wr i) (fun iv _ => l.length - (intOf iv).toNat)
  case atStart => exact ⟨0, rfl, HI0.out⟩
  case round =>
    obtain ⟨i, rfl, hI⟩ := hrel
    have HI := Lib.hid hI
    have hi := hI.le
    clear hI HI0
    by_cases hlt : i < l.length
    · obtain ⟨fb, of', cap', hv, hfb, hel⟩ := Flds.at HF3.out (by omega)
      cases hv
      obtain ⟨e0, e1, e2, e3⟩ := hel i hlt
      have hfb' : fb < G := by rw [HG.out]; exact hfb
      have c0 := (below_cell HI.out.below hfb').trans e0
      have c1 := (below_cell HI.out.below hfb').trans e1
      have c2 := (below_cell HI.out.below hfb').trans e2
      have c3 := (below_cell HI.out.below hfb').trans e3
      have HOS := Lib.hid (outF_snoc (lookF LR) l i hlt)
      have HLN := Lib.hid (show (outF (lookF LR) (l.take i)).length ≤ 1620000 from by
        have h1 := outF_len (lookF LR) (l.take i) (fun f hf => HVL.out f (List.mem_of_mem_take hf))
        rw [List.length_take] at h1
        omega)
      have HFV := Lib.hid (HVL.out _ (List.getElem_mem hlt))
      have HFI := Lib.hid (HIS.out _ (List.getElem_mem hlt))
      have HFS := Lib.hid (HSM.out _ (List.getElem_mem hlt))
      clear hel e0 e1 e2 e3
      generalize l[i] = f at *
      obtain ⟨bx, bbl⟩ := box1 wr #[.string (bs f.name), .int .u8 f.kind, .string (bs f.one), .string (bs f.two)] 48
      have hwr : G ≤ wr.heap.size := Nat.le_of_lt HI.out.bld.lt
      have HB4 := Lib.hid (HI.out.below.trans (bbl.mono hwr))
      have HBA := Lib.hid (HI.out.bld.below bbl)
      have HX4 := Lib.hid bx
      go_upto_region 11 with fail
      generalize wr.alloc (.cells #[.string (bs f.name), .int .u8 f.kind, .string (bs f.one), .string (bs f.two)] 48) = w4 at *
      generalize wr.heap.size = D at *
      clear bx bbl c0 c1 c2 c3 HI
      have k0 := HX4.out.cell 0
      have k1 := HX4.out.cell 1
      have k2 := HX4.out.cell 2
      have k3 := HX4.out.cell 3
      obtain ⟨hf1, hf2, _, hf4, hf5⟩ := HFS.out
      have hlk := (HM3.out.below HB4.out hbl3).look (x := f.name) (by omega)
      obtain ⟨lv, hlv⟩ : ∃ lv, lv = (lookL LR f.name).getD [] := ⟨_, rfl⟩
      obtain ⟨li, hli⟩ : ∃ li, li = (lookL LR f.name).isSome := ⟨_, rfl⟩
      rw [← hlv, ← hli] at hlk
      rw [← hli] at HFI
      have hlv' : lookF LR f.name = lv := hlv.symm
      rw [hlv'] at HOS HFV
      have HLV := Lib.hid hlv'
      have hne := bs_isEmpty f.name
      have hve := bs_isEmpty lv
      have HFL := Lib.hid (show f.one.length ≤ 20000 ∧ f.two.length ≤ 20000 from ⟨Nat.le_trans hf1 HSZ.out, Nat.le_trans hf2 HSZ.out⟩)
      clear hlv hli hlv' hf1 hf2 hf5
      cases hnb : f.name.isEmpty with
      | true =>
        rw [hnb] at hne
        have HVF := Lib.hid (show valF lv f = f.one from by unfold valF; rw [if_pos (.inl (List.isEmpty_iff.1 hnb))])
        clear hnb
        go_wp2_with fail
        refine (write_any G (outF (lookF LR) (l.take i)) f.one w4 HBA.out (by have := HLN.out; have := HFL.out; omega)).mono ?_
        rintro en w5 ⟨rfl, hb5, hbl5, _⟩
        have HZ := Lib.hid (show FiI LR l G w3 w5 (i + 1) from ⟨hlt, by rw [HOS.out, HVF.out]; exact hb5, HB4.out.trans hbl5⟩)
        clear hb5 hbl5
        go_wp2_with fail
        go_roundw
        case rel => exact ⟨i + 1, by go_num, HZ.out⟩
        case measure => simp [intOf]; omega
      | false =>
        rw [hnb] at hne
        have hnn : f.name ≠ [] := fun q => by rw [q] at hnb; cases hnb
        obtain rfl : li = true := HFI.out hnn
        cases hvb : lv.isEmpty with
        | true =>
          rw [hvb] at hve
          have hv0 : lv = [] := List.isEmpty_iff.1 hvb
          rcases hf4 with q | q | q | q
          · exact absurd q hnn
          · have q1 : (f.kind == 124) = false := by rw [q]; rfl
            have q2 : (f.kind == 63) = false := by rw [q]; rfl
            have HVF := Lib.hid (show valF lv f = lv from by unfold valF; rw [if_neg (by rintro (g | ⟨g, _⟩ | ⟨g, _⟩) <;> first | exact hnn g | omega), if_neg (by omega)])
            have HLL := Lib.hid HFV.out
            rw [HVF.out] at HLL
            clear hnb hvb hnn hv0 q
            go_wp2_with fail
            refine (write_any G (outF (lookF LR) (l.take i)) lv w4 HBA.out (by have := HLN.out; have := HLL.out; omega)).mono ?_
            rintro en w5 ⟨rfl, hb5, hbl5, _⟩
            have HZ := Lib.hid (show FiI LR l G w3 w5 (i + 1) from ⟨hlt, by rw [HOS.out, HVF.out]; exact hb5, HB4.out.trans hbl5⟩)
            clear hb5 hbl5
            go_wp2_with fail
            go_roundw
            case rel => exact ⟨i + 1, by go_num, HZ.out⟩
            case measure => simp [intOf]; omega
          · have q1 : (f.kind == 124) = true := by rw [q]; rfl
            have HVF := Lib.hid (show valF lv f = f.one from by unfold valF; rw [if_pos (.inr (.inl ⟨q, hv0⟩))])
            clear hnb hvb hnn hv0 q
            go_wp2_with fail
            refine (write_any G (outF (lookF LR) (l.take i)) f.one w4 HBA.out (by have := HLN.out; have := HFL.out; omega)).mono ?_
            rintro en w5 ⟨rfl, hb5, hbl5, _⟩
            have HZ := Lib.hid (show FiI LR l G w3 w5 (i + 1) from ⟨hlt, by rw [HOS.out, HVF.out]; exact hb5, HB4.out.trans hbl5⟩)
            clear hb5 hbl5
            go_wp2_with fail
            go_roundw
            case rel => exact ⟨i + 1, by go_num, HZ.out⟩
            case measure => simp [intOf]; omega
          · have q1 : (f.kind == 124) = false := by rw [q]; rfl
            have q2 : (f.kind == 63) = true := by rw [q]; rfl
            have HVF := Lib.hid (show valF lv f = f.two from by unfold valF; rw [if_neg (by rintro (g | ⟨g, _⟩ | ⟨_, g⟩) <;> first | exact hnn g | omega | exact g hv0), if_pos q])
            clear hnb hvb hnn hv0 q
            go_wp2_with fail
            refine (write_any G (outF (lookF LR) (l.take i)) f.two w4 HBA.out (by have := HLN.out; have := HFL.out; omega)).mono ?_
            rintro en w5 ⟨rfl, hb5, hbl5, _⟩
            have HZ := Lib.hid (show FiI LR l G w3 w5 (i + 1) from ⟨hlt, by rw [HOS.out, HVF.out]; exact hb5, HB4.out.trans hbl5⟩)
            clear hb5 hbl5
            go_wp2_with fail
            go_roundw
            case rel => exact ⟨i + 1, by go_num, HZ.out⟩
            case measure => simp [intOf]; omega
        | false =>
          rw [hvb] at hve
          have hv0 : lv ≠ [] := fun q => by rw [q] at hvb; cases hvb
          rcases hf4 with q | q | q | q
          · exact absurd q hnn
          · have q1 : (f.kind == 124) = false := by rw [q]; rfl
            have q2 : (f.kind == 63) = false := by rw [q]; rfl
            have HVF := Lib.hid (show valF lv f = lv from by unfold valF; rw [if_neg (by rintro (g | ⟨g, _⟩ | ⟨g, _⟩) <;> first | exact hnn g | omega), if_neg (by omega)])
            have HLL := Lib.hid HFV.out
            rw [HVF.out] at HLL
            clear hnb hvb hnn hv0 q
            go_wp2_with fail
            refine (write_any G (outF (lookF LR) (l.take i)) lv w4 HBA.out (by have := HLN.out; have := HLL.out; omega)).mono ?_
            rintro en w5 ⟨rfl, hb5, hbl5, _⟩
            have HZ := Lib.hid (show FiI LR l G w3 w5 (i + 1) from ⟨hlt, by rw [HOS.out, HVF.out]; exact hb5, HB4.out.trans hbl5⟩)
            clear hb5 hbl5
            go_wp2_with fail
            go_roundw
            case rel => exact ⟨i + 1, by go_num, HZ.out⟩
            case measure => simp [intOf]; omega
          · have q1 : (f.kind == 124) = true := by rw [q]; rfl
            have q2 : (f.kind == 63) = false := by rw [q]; rfl
            have HVF := Lib.hid (show valF lv f = lv from by unfold valF; rw [if_neg (by rintro (g | ⟨_, g⟩ | ⟨g, _⟩) <;> first | exact hnn g | omega | exact hv0 g), if_neg (by omega)])
            have HLL := Lib.hid HFV.out
            rw [HVF.out] at HLL
            clear hnb hvb hnn hv0 q
            go_wp2_with fail
            refine (write_any G (outF (lookF LR) (l.take i)) lv w4 HBA.out (by have := HLN.out; have := HLL.out; omega)).mono ?_
            rintro en w5 ⟨rfl, hb5, hbl5, _⟩
            have HZ := Lib.hid (show FiI LR l G w3 w5 (i + 1) from ⟨hlt, by rw [HOS.out, HVF.out]; exact hb5, HB4.out.trans hbl5⟩)
            clear hb5 hbl5
            go_wp2_with fail
            go_roundw
            case rel => exact ⟨i + 1, by go_num, HZ.out⟩
            case measure => simp [intOf]; omega
          · have q1 : (f.kind == 124) = false := by rw [q]; rfl
            have q2 : (f.kind == 63) = true := by rw [q]; rfl
            have HVF := Lib.hid (show valF lv f = f.one from by unfold valF; rw [if_pos (.inr (.inr ⟨q, hv0⟩))])
            clear hnb hvb hnn hv0 q
            go_wp2_with fail
            refine (write_any G (outF (lookF LR) (l.take i)) f.one w4 HBA.out (by have := HLN.out; have := HFL.out; omega)).mono ?_
            rintro en w5 ⟨rfl, hb5, hbl5, _⟩
            have HZ := Lib.hid (show FiI LR l G w3 w5 (i + 1) from ⟨hlt, by rw [HOS.out, HVF.out]; exact hb5, HB4.out.trans hbl5⟩)
            clear hb5 hbl5
            go_wp2_with fail
            go_roundw
            case rel => exact ⟨i + 1, by go_num, HZ.out⟩
            case measure => simp [intOf]; omega
    · obtain rfl : i = l.length := by omega
      have hbd := HI.out.bld
      rw [List.take_length, HRD.out] at hbd
      have HBD := Lib.hid hbd
      have HBI := Lib.hid HI.out.below
      clear hbd hlt hi HI
      generalize hT : fillT (lookF LR) segs e = T at *
      have HTT := Lib.hid hT
      clear hT
      have hTl : T.length ≤ 1620000 := by
        have h1 := outF_len (lookF LR) l HVL.out
        rw [HRD.out] at h1
        omega
      go_wp2_with fail
      refine (Try.Builder_Len G G (Lib.byteCells T) wr HBD.out).mono ?_
      rintro en w5 ⟨rfl, rfl⟩
      rw [show (Lib.byteCells T).length = T.length from Lib.byteCells_length T]
      have HBX := Lib.hid (show Below w.heap.size w w5 from HB3.out.trans (HBI.out.mono (by rw [HG.out]; exact HB3.out.size)))
      by_cases hbig : 40000 < T.length
      · have qb : decide ((40000 : Int) < (T.length : Int)) = true := decide_eq_true (by omega)
        have HBG := Lib.hid hbig
        clear hbig
        go_wp2_with fail
        go_ret2
        exact ⟨_, _, rfl, HBX.out, fun q => absurd HTC.out q, fun _ => .inl ⟨rfl, rfl, .inr (by rw [HLR.out, HTT.out]; exact HBG.out)⟩⟩
      · have qb : decide ((40000 : Int) < (T.length : Int)) = false := decide_eq_false (by omega)
        clear hbig
        go_wp2_with fail
        refine (Try.Builder_String_any G G T w5 HBD.out (Nat.le_of_lt HBD.out.lt)).mono ?_
        rintro en w6 ⟨rfl, hb6⟩
        have HB6 := Lib.hid (show Below w.heap.size w w6 from HBX.out.trans (hb6.mono (by rw [HG.out]; exact HB3.out.size)))
        clear hb6
        go_wp2_with fail
        go_ret2
        exact ⟨_, _, rfl, HB6.out, fun q => absurd HTC.out q, fun _ => .inr ⟨rfl, by rw [HLR.out, HTT.out]; rfl⟩⟩
end Go.Proofs.Ytfohehldkchnjaa
