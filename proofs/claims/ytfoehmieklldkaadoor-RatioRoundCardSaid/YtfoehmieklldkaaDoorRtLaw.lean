/- Plain laws for RatioRound: the answers of Plus and Times are ratios again, and sums are those of the other order. -/
import Derived.Test.YtfoehmieklldkaaDoorRatE
namespace Go.Proofs.YtfoehmieklldkaaDoor

def OpR (ok : Prop) (x : Nat × Nat) (s t : ByteArray) (code : Int) : Prop :=
  (code ≠ 0 ∧ s = ⟨#[]⟩ ∧ t = ⟨#[]⟩ ∧ ¬ (ok ∧ Fits x.1 ∧ Fits x.2)) ∨ (code = 0 ∧ ok ∧ s = bs (Lib.decDigits x.1) ∧ t = bs (Lib.decDigits x.2) ∧ Fits x.1 ∧ Fits x.2)

theorem OpR.same {ok ok' : Prop} {x x' : Nat × Nat} {s t s' t' : ByteArray} {code code' : Int} (h : OpR ok x s t code) (h' : OpR ok' x' s' t' code') (hok : ok ↔ ok') (hx : ok → x = x') :
    (code = 0 ↔ code' = 0) ∧ s = s' ∧ t = t' := by
  rcases h with ⟨h1, h2, h3, h4⟩ | ⟨h1, h2, h3, h4, h5, h6⟩
  · rcases h' with ⟨k1, k2, k3, k4⟩ | ⟨k1, k2, k3, k4, k5, k6⟩
    · exact ⟨⟨fun h => absurd h h1, fun h => absurd h k1⟩, h2.trans k2.symm, h3.trans k3.symm⟩
    · have e := hx (hok.2 k2)
      exact absurd ⟨hok.2 k2, by rw [e]; exact k5, by rw [e]; exact k6⟩ h4
  · have e := hx h2
    rcases h' with ⟨k1, k2, k3, k4⟩ | ⟨k1, k2, k3, k4, k5, k6⟩
    · exact absurd ⟨hok.1 h2, by rw [← e]; exact h5, by rw [← e]; exact h6⟩ k4
    · exact ⟨⟨fun _ => k1, fun _ => h1⟩, by rw [h3, k3, e], by rw [h4, k4, e]⟩

theorem ratOk_digits {x : Nat × Nat} {n d : Nat} (h : IsQ x n d) (h1 : Fits x.1) (h2 : Fits x.2) : RatOk (Lib.decDigits x.1) (Lib.decDigits x.2) :=
  ⟨h1, h2, numB_digits _, numB_digits _, by rw [decV_digits]; exact h.pos, by rw [decV_digits, decV_digits]; exact h.cop⟩

theorem plus_same {s t s' t' : List UInt8} {x y x' y' : ByteArray} {code code' : Int}
    (h : OpR (RatOk s t ∧ RatOk s' t') (plusQ (decV s) (decV t) (decV s') (decV t')) x y code) (h' : OpR (RatOk s' t' ∧ RatOk s t) (plusQ (decV s') (decV t') (decV s) (decV t)) x' y' code') :
    (code = 0 ↔ code' = 0) ∧ x = x' ∧ y = y' :=
  OpR.same h h' ⟨And.symm, And.symm⟩ (fun k => plus_comm k.1.cop k.2.cop k.1.pos k.2.pos)

/-- what the law asks of the six answers, once Plus (a, b) and the three products are no errors -/
theorem times_sum {a1 a2 b1 b2 c1 c2 : List UInt8} (ha : RatOk a1 a2) (hb : RatOk b1 b2) (hc : RatOk c1 c2)
    (hx1 : Fits (plusQ (decV a1) (decV a2) (decV b1) (decV b2)).1) (hx2 : Fits (plusQ (decV a1) (decV a2) (decV b1) (decV b2)).2)
    {p q r : Nat × Nat} (hp : p = timesQ (plusQ (decV a1) (decV a2) (decV b1) (decV b2)).1 (plusQ (decV a1) (decV a2) (decV b1) (decV b2)).2 (decV c1) (decV c2))
    (hq : q = timesQ (decV a1) (decV a2) (decV c1) (decV c2)) (hr : r = timesQ (decV b1) (decV b2) (decV c1) (decV c2))
    (fp1 : Fits p.1) (fp2 : Fits p.2) (fq1 : Fits q.1) (fq2 : Fits q.2) (fr1 : Fits r.1) (fr2 : Fits r.2) :
    RatOk (Lib.decDigits p.1) (Lib.decDigits p.2) ∧ RatOk (Lib.decDigits q.1) (Lib.decDigits q.2) ∧ RatOk (Lib.decDigits r.1) (Lib.decDigits r.2) ∧ p = plusQ q.1 q.2 r.1 r.2 := by
  obtain ⟨k1, p1, v1⟩ := plus_is ha.cop hb.cop ha.pos hb.pos
  have hpq := times_is k1 hc.cop p1 hc.pos
  rw [← hp] at hpq
  have hqq := times_is ha.cop hc.cop ha.pos hc.pos
  rw [← hq] at hqq
  have hrq := times_is hb.cop hc.cop hb.pos hc.pos
  rw [← hr] at hrq
  refine ⟨ratOk_digits hpq fp1 fp2, ratOk_digits hqq fq1 fq2, ratOk_digits hrq fr1 fr2, ?_⟩
  rw [hp, hq, hr]
  exact plus_times ha.cop hb.cop hc.cop ha.pos hb.pos hc.pos

end Go.Proofs.YtfoehmieklldkaaDoor
