/- walks of the layer counter: the least failure. -/
import Derived.Test.YtcgchcngiebgpaaRows
import Derived.Test.YtcgchcngiebgpaaBase
import Derived.WalkMore
namespace Go.Proofs.Ytcgchcngiebgpaa
open Go.RowKit

theorem load_any (b off : Nat) (x : Int) (w : World) (h0 : w.cell? ⟨b, off, none⟩ = some (.int .i64 x)) :
    Calls Try.prog 20 #[.pointer (some ⟨b, off, none⟩)] w fun e w' => e = .returned (.int .i64 x) ∧ w = w' := by
  have hl := run_call_load (P := Try.prog) Try.func23 (by kernel_rfl) (by kernel_rfl) (by kernel_rfl) .i64 (by kernel_rfl) h0
  go_enter Try.func20, Try.ntmps20
  go_wp2
  go_returns
  exact ⟨rfl, rfl⟩

theorem cas_hit (b off : Nat) (x y : Int) (w : World) (h0 : w.cell? ⟨b, off, none⟩ = some (.int .i64 x)) (f0 : w.frozen? ⟨b, off, none⟩ = false) :
    Calls Try.prog 21 #[.pointer (some ⟨b, off, none⟩), .int .i64 x, .int .i64 y] w fun e w' => e = .returned (.bool true) ∧ w.setCell ⟨b, off, none⟩ (.int .i64 y) = w' := by
  have hl := run_call_cas_hit (P := Try.prog) Try.func24 (by kernel_rfl) (by kernel_rfl) (by kernel_rfl) .i64 (by kernel_rfl) (y := y) h0 f0
  go_enter Try.func21, Try.ntmps21
  go_wp2
  go_returns
  exact ⟨rfl, rfl⟩

theorem store_any (b off : Nat) (x y : Int) (w : World) (h0 : w.cell? ⟨b, off, none⟩ = some (.int .i64 x)) (f0 : w.frozen? ⟨b, off, none⟩ = false) :
    Calls Try.prog 22 #[.pointer (some ⟨b, off, none⟩), .int .i64 y] w fun e w' => e = .returned (.tuple #[]) ∧ w.setCell ⟨b, off, none⟩ (.int .i64 y) = w' := by
  have hl := run_call_store (P := Try.prog) Try.func25 (by kernel_rfl) (by kernel_rfl) (by kernel_rfl) (by kernel_rfl) (k := .i64) (y := y) h0 f0
  go_enter Try.func22, Try.ntmps22
  go_wp2
  go_returns
  exact ⟨rfl, rfl⟩

/-- May it be offered? -/
def right (n e : Int) : Bool := decide (0 ≤ n) && decide (n < 65536) && decide (1 ≤ e) && decide (e ≤ 255)

theorem offer_bad (g : Nat) (n e : Int) (w : World) (hr : right n e = false) :
    Calls Try.prog 10 #[.pointer (some ⟨g, 0, none⟩), .int .i64 n, .int .i64 e] w fun r w' => r = .returned (.int .i64 1) ∧ w = w' := by
  have hr' : n < 0 ∨ 65536 ≤ n ∨ e < 1 ∨ 255 < e := by simp [right] at hr; omega
  by_cases h1 : n < 0
  · go_enter Try.func10, Try.ntmps10
    go_wp2_with fail
    go_step3
    go_wp2
    rw [Exit.noGoto_ret]
    go_returns
    exact ⟨rfl, rfl⟩
  by_cases h2 : 65536 ≤ n
  · go_enter Try.func10, Try.ntmps10
    go_wp2_with fail
    go_step3
    go_wp2
    rw [Exit.noGoto_ret]
    go_returns
    exact ⟨rfl, rfl⟩
  by_cases h3 : e < 1
  · go_enter Try.func10, Try.ntmps10
    go_wp2_with fail
    go_step3
    go_wp2
    rw [Exit.noGoto_ret]
    go_returns
    exact ⟨rfl, rfl⟩
  have h4 : 255 < e := by omega
  clear hr hr'
  go_enter Try.func10, Try.ntmps10
  go_wp2_with fail
  go_step3
  go_wp2
  rw [Exit.noGoto_ret]
  go_returns
  exact ⟨rfl, rfl⟩

theorem or8 (n e : Int) (h1 : 0 ≤ n) (h2 : n < 65536) (h3 : 0 ≤ e) (h4 : e ≤ 255) : bits BinOp.or IntKind.i64 (n * 256) e = n * 256 + e :=
  bits_join .i64 62 (by decide) (fun n h0 h1 => by rw [IntKind.wrap_i64]; omega) 8 (n * 256) e (by omega) (by omega) (by omega) h3 (by omega) (by omega)

theorem offer_keep (g : Nat) (n e h : Int) (w : World) (hr : right n e = true) (B : Blk w g 30 #[.int .i64 h]) (hk : h ≠ 0) (hk2 : h ≤ n * 256 + e) :
    Calls Try.prog 10 #[.pointer (some ⟨g, 0, none⟩), .int .i64 n, .int .i64 e] w fun r w' => r = .returned (.int .i64 0) ∧ w = w' := by
  have hr' : 0 ≤ n ∧ n < 65536 ∧ 1 ≤ e ∧ e ≤ 255 := by simp [right] at hr; omega
  obtain ⟨h1, h2, h3, h4⟩ := hr'
  clear hr
  have c0 : w.cell? ⟨g, 0, none⟩ = some (.int .i64 h) := B.cell 0
  have f0 := B.frozen 0
  have hor := or8 n e h1 h2 (by omega) h4
  have hne : (h != 0) = true := by simpa using hk
  go_enter Try.func10, Try.ntmps10
  go_wp2_with fail
  go_step3
  go_wp2_with fail
  go_step3
  go_wp2_with fail
  refine (load_any _ _ _ _ c0).mono ?_
  rintro r w2 ⟨rfl, rfl⟩
  go_wp2
  rw [Exit.noGoto_ret]
  go_returns
  exact ⟨rfl, rfl⟩

theorem offer_take (g : Nat) (n e h : Int) (w : World) (hr : right n e = true) (B : Blk w g 30 #[.int .i64 h]) (hk : h = 0 ∨ n * 256 + e < h) :
    Calls Try.prog 10 #[.pointer (some ⟨g, 0, none⟩), .int .i64 n, .int .i64 e] w fun r w' => r = .returned (.int .i64 0) ∧ w.setCell ⟨g, 0, none⟩ (.int .i64 (n * 256 + e)) = w' := by
  have hr' : 0 ≤ n ∧ n < 65536 ∧ 1 ≤ e ∧ e ≤ 255 := by simp [right] at hr; omega
  obtain ⟨h1, h2, h3, h4⟩ := hr'
  clear hr
  have c0 : w.cell? ⟨g, 0, none⟩ = some (.int .i64 h) := B.cell 0
  have f0 := B.frozen 0
  have hor := or8 n e h1 h2 (by omega) h4
  by_cases hz : h = 0
  · subst hz
    go_enter Try.func10, Try.ntmps10
    go_wp2_with fail
    go_step3
    go_wp2_with fail
    go_step3
    go_wp2_with fail
    refine (load_any _ _ _ _ c0).mono ?_
    rintro r w2 ⟨rfl, rfl⟩
    go_wp2_with fail
    refine (cas_hit _ _ _ _ _ c0 f0).mono ?_
    rintro r w2 ⟨rfl, rfl⟩
    go_wp2
    rw [Exit.noGoto_ret]
    go_returns
    exact ⟨rfl, rfl⟩
  · have hlt : n * 256 + e < h := by omega
    have hne : (h != 0) = true := by simpa using hz
    clear hk hz
    go_enter Try.func10, Try.ntmps10
    go_wp2_with fail
    go_step3
    go_wp2_with fail
    go_step3
    go_wp2_with fail
    refine (load_any _ _ _ _ c0).mono ?_
    rintro r w2 ⟨rfl, rfl⟩
    go_wp2_with fail
    refine (cas_hit _ _ _ _ _ c0 f0).mono ?_
    rintro r w2 ⟨rfl, rfl⟩
    go_wp2
    rw [Exit.noGoto_ret]
    go_returns
    exact ⟨rfl, rfl⟩

/-- What is held behind an offer; what is answered. -/
def off (h n e : Int) : Int := if right n e = true then (if h ≠ 0 ∧ h ≤ n * 256 + e then h else n * 256 + e) else h
def ec (n e : Int) : Int := if right n e = true then 0 else 1

theorem grownBy_set {w : World} {g : Nat} (p : Addr) (hp : p.block = g) (u : Value) : w.grownBy (w.setCell p u) (some g) :=
  ⟨rfl, rfl, rfl, by simp [World.setCell], fun k _ hk => Below.heap_setCell _ _ _ _ (by rintro rfl; exact hk (by rw [hp]))⟩

theorem offer_any (g : Nat) (n e h : Int) (w : World) (B : Blk w g 30 #[.int .i64 h]) :
    Calls Try.prog 10 #[.pointer (some ⟨g, 0, none⟩), .int .i64 n, .int .i64 e] w fun r w' => r = .returned (.int .i64 (ec n e)) ∧ Blk w' g 30 #[.int .i64 (off h n e)] ∧ w.grownBy w' (some g) := by
  cases hr : right n e
  · refine (offer_bad g n e w hr).mono fun r w' ⟨h1, h2⟩ => ?_
    subst h2
    refine ⟨by rw [h1]; simp [ec, hr], by simpa [off, hr] using B, World.grownBy.refl w _⟩
  · by_cases hk : h ≠ 0 ∧ h ≤ n * 256 + e
    · refine (offer_keep g n e h w hr B hk.1 hk.2).mono fun r w' ⟨h1, h2⟩ => ?_
      subst h2
      refine ⟨by rw [h1]; simp [ec, hr], ?_, World.grownBy.refl w _⟩
      unfold off
      rw [if_pos hr, if_pos hk]
      exact B
    · refine (offer_take g n e h w hr B (by omega)).mono fun r w' ⟨h1, h2⟩ => ?_
      subst h2
      refine ⟨by rw [h1]; simp [ec, hr], ?_, grownBy_set _ rfl _⟩
      unfold off
      rw [if_pos hr, if_neg hk]
      exact B.set_ 0 _

theorem and255 (h : Int) (h0 : 0 ≤ h) (h1 : h < 16777216) : bits BinOp.and IntKind.i64 h 255 = h % 256 :=
  bits_mask .i64 62 (by decide) (fun n h0 h1 => by rw [IntKind.wrap_i64]; omega) 8 (by decide) h h0 (by omega)

theorem told_any (g : Nat) (h : Int) (w : World) (B : Blk w g 30 #[.int .i64 h]) (h0 : 0 ≤ h) (h1 : h < 16777216) :
    Calls Try.prog 12 #[.pointer (some ⟨g, 0, none⟩)] w fun r w' => r = .returned (.tuple #[.int .i64 (h / 256), .int .i64 (h % 256)]) ∧ w = w' := by
  have c0 : w.cell? ⟨g, 0, none⟩ = some (.int .i64 h) := B.cell 0
  have f0 := B.frozen 0
  have ha := and255 h h0 h1
  go_enter Try.func12, Try.ntmps12
  go_wp2_with fail
  refine (load_any _ _ _ _ c0).mono ?_
  rintro r w2 ⟨rfl, rfl⟩
  go_wp2
  go_returns
  exact ⟨rfl, rfl⟩
end Go.Proofs.Ytcgchcngiebgpaa
