/- Walk: the reference's down. -/
import Derived.Test.YtpdfeifnbeojcaaFB
import Derived.Test.YtpdfeifnbeojcaaWC
namespace Go.Proofs.Ytpdfeifnbeojcaa
open Go.RowKit

theorem ok_yes' {c : Rm} {w y : Int} (h : c.at_ y = (c.a, c.b) ∨ w ≤ (c.at_ y).2 - (c.at_ y).1 ∨ (nxt c.fl y).2 = false) : okD c w y = true := by
  unfold okD
  rcases h with h | h | h <;> simp [h]
theorem ok_no' {c : Rm} {w y : Int} (h1 : ¬ c.at_ y = (c.a, c.b)) (h2 : ¬ w ≤ (c.at_ y).2 - (c.at_ y).1) (h3 : (nxt c.fl y).2 = true) : okD c w y = false := by
  unfold okD; simp [h1, h2, h3] <;> omega
set_option maxHeartbeats 2000000 in
theorem rdown_any (fa : Option Addr) (fc : Nat) (c : Rm) (hc : RmOk c) (wd y : Int) (w : World) (hf : FRow w fa c.fl) (hn : c.fl.length ≤ 1000) (hy : Fay y) (hw : 0 ≤ wd ∧ wd ≤ 2199023255552) :
    Calls Try.prog 15 #[.int .i64 wd, .int .i64 c.h, .int .i64 c.a, .int .i64 c.b, .int .i64 y, .slice fa c.fl.length fc] w fun r w' => r = .returned (.tuple #[.int .i64 (dwn c wd y), .int .i64 (c.at_ (dwn c wd y)).1, .int .i64 (c.at_ (dwn c wd y)).2]) ∧ Below w.heap.size w w' := by
  have HC := hide hc
  have HF := hide hf
  have HY := hide hy
  clear hc hf hy
  go_enter Try.func15, Try.ntmps15
  go_wp2_with fail
  go_loopg [4] (cntB c.fl y + 1) (fun gk yv wr => ∃ y', yv = .int .i64 y' ∧ Hid (dwn c wd y' = dwn c wd y) ∧ Hid (Fay y') ∧ cntB c.fl y' < gk ∧ Below w.heap.size w wr)
  case atStart => exact ⟨y, rfl, rfl, HY, Nat.lt_succ_self _, Below.refl _ _⟩
  case round =>
    obtain ⟨yv, rfl, hdw, hfy, hcn, hbel⟩ := hrel
    have t := hide hbel
    clear hbel
    have HT := hide (rtall_any fa c.fl c.fl.length fc yv c.h c.a c.b wr (HF.out.below t.out) rfl HC.out.fl hfy.out (by have := HC.out.h; unfold Far; omega) HC.out.a HC.out.b hn)
    obtain ⟨⟨f1, f2⟩, f3, f4⟩ := HC.out.at_far yv
    have hP : Hid (c.at_ yv = ((c.at_ yv).1, (c.at_ yv).2)) := hide rfl
    unfold Rm.at_ at HT
    rw [show tall c.fl yv c.h c.a c.b = c.at_ yv from rfl] at HT
    generalize (c.at_ yv).1 = pf at hP f1 f2 HT
    generalize (c.at_ yv).2 = pt at hP f3 f4 HT
    go_wp2_with fail
    refine HT.out.mono ?_
    rintro r w2 ⟨rfl, k2⟩
    have t2 := hide (below_call (w := w) t.out k2)
    clear k2 HT t
    have HN := hide (rnext_any fa c.fl c.fl.length fc yv w2 (HF.out.below t2.out) rfl HC.out.fl hfy.out)
    go_wp2_with fail
    refine HN.out.mono ?_
    rintro r w3 ⟨rfl, k3⟩
    have t3 := hide (below_call (w := w) t2.out k3)
    clear k3 HN t2
    by_cases hs : pf = c.a ∧ pt = c.b
    · obtain ⟨q1, q2⟩ := hs
      have HD : Hid (dwn c wd yv = yv) := hide (dwn_ok (ok_yes' (.inl (by rw [hP.out, q1, q2]))))
      subst q1 q2
      go_wp2_with fail
      go_returns
      exact ⟨by rw [← hdw.out, HD.out, hP.out]; rfl, t3.out⟩
    · have HS := hide hs
      clear hs
      by_cases hp : pf = c.a
      · have hq : ¬ pt = c.b := fun h => HS.out ⟨hp, h⟩
        have bp : (pf == c.a) = true := by simpa using hp
        have bq : (pt == c.b) = false := by simpa using hq
        clear hp hq
        by_cases hw3 : wd ≤ pt - pf
        · have HD : Hid (dwn c wd yv = yv) := hide (dwn_ok (ok_yes' (.inr (.inl (by rw [hP.out]; exact hw3)))))
          have bw : decide (wd ≤ pt - pf) = true := by simpa using hw3
          go_wp2_with fail
          go_returns
          exact ⟨by rw [← hdw.out, HD.out, hP.out]; rfl, t3.out⟩
        · have bw : decide (wd ≤ pt - pf) = false := by simpa using hw3
          cases hnx : (nxt c.fl yv).2 with
          | false =>
            have HD : Hid (dwn c wd yv = yv) := hide (dwn_ok (ok_yes' (.inr (.inr hnx))))
            clear hnx
            go_wp2_with fail
            go_returns
            exact ⟨by rw [← hdw.out, HD.out, hP.out]; rfl, t3.out⟩
          | true =>
            have HD : Hid (dwn c wd yv = dwn c wd (nxt c.fl yv).1) := hide (dwn_no (ok_no' (by rw [hP.out]; intro h; simp only [Prod.mk.injEq] at h; exact HS.out h) (by rw [hP.out]; exact hw3) hnx))
            have HCN := hide (cnt_lt hnx)
            have HNF : Hid (Fay (nxt c.fl yv).1) := hide (by have := nxt_far HC.out.fl hnx; unfold Fay; omega)
            clear hnx
            generalize (nxt c.fl yv).1 = yn at HD HCN HNF ⊢
            go_wp2_with fail
            go_roundg (cntB c.fl yv)
            case measure => exact hcn
            case rel => exact ⟨yn, rfl, hide (by rw [← HD.out, hdw.out]), HNF, HCN.out, t3.out⟩
      · have bp : (pf == c.a) = false := by simpa using hp
        clear hp
        by_cases hw3 : wd ≤ pt - pf
        · have HD : Hid (dwn c wd yv = yv) := hide (dwn_ok (ok_yes' (.inr (.inl (by rw [hP.out]; exact hw3)))))
          have bw : decide (wd ≤ pt - pf) = true := by simpa using hw3
          go_wp2_with fail
          go_returns
          exact ⟨by rw [← hdw.out, HD.out, hP.out]; rfl, t3.out⟩
        · have bw : decide (wd ≤ pt - pf) = false := by simpa using hw3
          cases hnx : (nxt c.fl yv).2 with
          | false =>
            have HD : Hid (dwn c wd yv = yv) := hide (dwn_ok (ok_yes' (.inr (.inr hnx))))
            clear hnx
            go_wp2_with fail
            go_returns
            exact ⟨by rw [← hdw.out, HD.out, hP.out]; rfl, t3.out⟩
          | true =>
            have HD : Hid (dwn c wd yv = dwn c wd (nxt c.fl yv).1) := hide (dwn_no (ok_no' (by rw [hP.out]; intro h; simp only [Prod.mk.injEq] at h; exact HS.out h) (by rw [hP.out]; exact hw3) hnx))
            have HCN := hide (cnt_lt hnx)
            have HNF : Hid (Fay (nxt c.fl yv).1) := hide (by have := nxt_far HC.out.fl hnx; unfold Fay; omega)
            clear hnx
            generalize (nxt c.fl yv).1 = yn at HD HCN HNF ⊢
            go_wp2_with fail
            go_roundg (cntB c.fl yv)
            case measure => exact hcn
            case rel => exact ⟨yn, rfl, hide (by rw [← HD.out, hdw.out]), HNF, HCN.out, t3.out⟩
end Go.Proofs.Ytpdfeifnbeojcaa
