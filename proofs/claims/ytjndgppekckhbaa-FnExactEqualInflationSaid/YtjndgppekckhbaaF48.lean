/- The comparison of two inflations that read alike. No condition but on the sizes. -/
import Derived.Test.YtjndgppekckhbaaF47
namespace Go.Proofs.Ytjndgppekckhbaa
open Go.RowKit

/-- A block of two cells. -/
def Bx (w : World) (s : Nat) (u v : Value) : Prop := w.cell? ⟨s, 0, none⟩ = some u ∧ w.cell? ⟨s, 1, none⟩ = some v ∧ s < w.heap.size
theorem Bx.below {w w' : World} {s : Nat} {u v : Value} (h : Bx w s u v) (hb : Below w.heap.size w w') : Bx w' s u v :=
  ⟨cellThru hb h.2.2 h.1, cellThru hb h.2.2 h.2.1, Nat.lt_of_lt_of_le h.2.2 hb.size⟩
theorem Bx.new (w : World) (u v : Value) (t : TypeId) : Bx (w.alloc (.cells #[u, v] t)) w.heap.size u v :=
  ⟨by rw [World.cell?_alloc_at (hn := rfl)]; rfl, by rw [World.cell?_alloc_at (hn := rfl)]; rfl, by simp⟩

set_option maxHeartbeats 600000 in
theorem eqInflation_same (a : Option Addr) (n c : Nat) (xs : List Int) (b : Option Addr) (m d : Nat) (xss : List (List Int)) (a' : Option Addr) (n' c' : Nat) (b' : Option Addr) (m' d' : Nat) (w : World)
    (h1 : SlI w a n c xs) (h2 : IIs w b m d xss) (h3 : SlI w a' n' c' xs) (h4 : IIs w b' m' d' xss) :
    Calls Try.prog 31 #[infV a n c b m d, infV a' n' c' b' m' d'] w (RetV w (.bool true)) := by
  unfold infV
  have hbx := below_alloc w (.cells #[.slice a n c, .slice b m d] 34)
  have hby := hbx.alloc hbx.size (.cells #[.slice a' n' c', .slice b' m' d'] 34)
  have x1 := (Bx.new w (.slice a n c) (.slice b m d) 34).below (below_alloc _ (.cells #[.slice a' n' c', .slice b' m' d'] 34))
  have x2 := Bx.new (w.alloc (.cells #[.slice a n c, .slice b m d] 34)) (.slice a' n' c') (.slice b' m' d') 34
  have c1 := eqIntS_same a a' n n' c c' xs _ (h1.below hby) (h3.below hby)
  have H2 := Lib.hid h2
  have H4 := Lib.hid h4
  have X1 := Lib.hid x1
  have X2 := Lib.hid x2
  clear h1 h2 h3 h4 x1 x2
  go_enter Try.func31, Try.ntmps31
  go_wp2_with fail
  refine c1.mono ?_
  rintro e w1 ⟨rfl, hb1⟩
  obtain ⟨p1, p2, _⟩ := X1.out.below hb1
  obtain ⟨q1, q2, _⟩ := X2.out.below hb1
  simp only [World.size_alloc] at q1 q2
  have hbw : Below w.heap.size w w1 := hby.trans (hb1.mono hby.size)
  clear c1 hbx
  go_wp2_with fail
  refine (eqIntSS_same b b' m m' d d' xss w1 (H2.out.below hbw) (H4.out.below hbw)).mono ?_
  rintro e w2 ⟨rfl, hb2⟩
  go_wp2
  go_ret
  exact ⟨rfl, hbw.trans (hb2.mono hbw.size)⟩
end Go.Proofs.Ytjndgppekckhbaa
