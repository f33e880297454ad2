/- Words in rows, as plain numbers. -/
import Derived.Test.YtpdfeifnbeojcaaFl
namespace Go.Proofs.Ytpdfeifnbeojcaa
open Go.RowKit

/-- A word: where it came from, its width, the gap ahead of it, its ends. -/
structure Wd where
  f : Int
  t : Int
  w : Int
  g : Int
  n : Int
structure Rw where
  y : Int
  f : Nat
  t : Nat
  xs : List Int
/-- The common room. -/
structure Rm where
  h : Int
  al : Int
  a : Int
  b : Int
  fl : List Flt
def Rm.at_ (c : Rm) (y : Int) : Int × Int := tall c.fl y c.h c.a c.b
def okD (c : Rm) (w y : Int) : Bool := decide (c.at_ y = (c.a, c.b)) || decide (w ≤ (c.at_ y).2 - (c.at_ y).1) || !(nxt c.fl y).2
theorem okD_nxt {c : Rm} {w y : Int} (h : okD c w y = false) : (nxt c.fl y).2 = true := by
  unfold okD at h
  rw [Bool.or_eq_false_iff] at h
  simpa using h.2
/-- How far down a row of a word of width w stands. -/
def dwn (c : Rm) (w y : Int) : Int := if okD c w y = true then y else dwn c w (nxt c.fl y).1
termination_by cntB c.fl y
decreasing_by
  rename_i h
  exact cnt_lt (okD_nxt (by simpa using h))
theorem dwn_ok {c : Rm} {w y : Int} (h : okD c w y = true) : dwn c w y = y := by rw [dwn, if_pos h]
theorem dwn_no {c : Rm} {w y : Int} (h : okD c w y = false) : dwn c w y = dwn c w (nxt c.fl y).1 := by rw [dwn, if_neg (by simp [h])]
theorem dwn_ge {c : Rm} {w : Int} : ∀ (n : Nat) {y : Int}, cntB c.fl y ≤ n → y ≤ dwn c w y := by
  intro n
  induction n with
  | zero =>
    intro y h
    cases ho : okD c w y
    · have := cnt_lt (okD_nxt ho); omega
    · rw [dwn_ok ho]; omega
  | succ n ih =>
    intro y h
    cases ho : okD c w y
    · have h1 := cnt_lt (okD_nxt ho)
      have h2 := nxt_lt (okD_nxt ho)
      rw [dwn_no ho]
      have := ih (y := (nxt c.fl y).1) (by omega)
      omega
    · rw [dwn_ok ho]; omega
/-- The words that go on in a row, behind the place e. -/
def grow (to : Int) : List Wd → Int → List Int × Int
  | [], e => ([], e)
  | w :: l, e => if w.n = 0 ∧ e + w.g + w.w ≤ to then ((e + w.g) :: (grow to l (e + w.g + w.w)).1, (grow to l (e + w.g + w.w)).2) else ([], e)
theorem grow_len (to : Int) : ∀ (l : List Wd) (e : Int), (grow to l e).1.length ≤ l.length
  | [], _ => by simp [grow]
  | w :: l, e => by
    unfold grow
    split
    · have := grow_len to l (e + w.g + w.w); simp; omega
    · simp
def moveOf (al left : Int) : Int := if al = 1 then left else if al = 2 then left / 2 else 0
def rowOf (c : Rm) (k : Nat) (w : Wd) (l : List Wd) (y : Int) : Rw :=
  let at_ := dwn c w.w y
  let p := c.at_ at_
  let q := grow p.2 l (p.1 + w.w)
  let m := moveOf c.al (max (p.2 - q.2) 0)
  { y := at_, f := k, t := k + 1 + q.1.length, xs := (p.1 :: q.1).map (· + m) }
def ends (k : Nat) (w : Wd) : Nat := if k = 0 then w.n.toNat else (w.n - 1).toNat
def empties (h : Int) (k : Nat) : Nat → Int → List Rw
  | 0, _ => []
  | n + 1, y => empties h k n y ++ [⟨y + n * h, k, k, []⟩]
theorem empties_len (h : Int) (k : Nat) : ∀ n y, (empties h k n y).length = n
  | 0, _ => rfl
  | n + 1, y => by unfold empties; rw [List.length_append, empties_len h k n y]; rfl
/-- All rows of the words from number k on, from the height y on; and the end. -/
def fill (c : Rm) (k : Nat) : List Wd → Int → List Rw × Int
  | [], y => ([], y)
  | w :: l, y =>
    let y1 := y + ends k w * c.h
    let r := rowOf c k w l y1
    let q := fill c r.t (l.drop (r.t - (k + 1))) (r.y + c.h)
    (empties c.h k (ends k w) y ++ r :: q.1, q.2)
termination_by l => l.length
decreasing_by simp; omega
theorem fill_nil (c : Rm) (k : Nat) (y : Int) : fill c k [] y = ([], y) := by rw [fill]
theorem fill_cons (c : Rm) (k : Nat) (w : Wd) (l : List Wd) (y : Int) : fill c k (w :: l) y =
    (empties c.h k (ends k w) y ++ rowOf c k w l (y + ends k w * c.h) :: (fill c (rowOf c k w l (y + ends k w * c.h)).t (l.drop ((rowOf c k w l (y + ends k w * c.h)).t - (k + 1))) ((rowOf c k w l (y + ends k w * c.h)).y + c.h)).1,
     (fill c (rowOf c k w l (y + ends k w * c.h)).t (l.drop ((rowOf c k w l (y + ends k w * c.h)).t - (k + 1))) ((rowOf c k w l (y + ends k w * c.h)).y + c.h)).2) := by
  rw [fill]
theorem row_t (c : Rm) (k : Nat) (w : Wd) (l : List Wd) (y : Int) : k + 1 ≤ (rowOf c k w l y).t ∧ (rowOf c k w l y).t ≤ k + 1 + l.length := by
  unfold rowOf
  have := grow_len (c.at_ (dwn c w.w y)).2 l ((c.at_ (dwn c w.w y)).1 + w.w)
  constructor <;> simp <;> omega
end Go.Proofs.Ytpdfeifnbeojcaa
