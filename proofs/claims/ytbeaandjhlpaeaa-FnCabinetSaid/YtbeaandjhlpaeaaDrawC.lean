/-
  DrawCabinetValid; parts of a cabinet are cabinets. Conditions: none.
-/
import Derived.Test.YtbeaandjhlpaeaaDrawCab
import Derived.Test.YtbeaandjhlpaeaaRdOf
namespace Go.Proofs.Ytbeaandjhlpaeaa
open Go.ChangeShapes Go.WideShapes Go.ChangeAt Go.RowKit
set_option maxRecDepth 100000

/-- A drawn list of drawers. -/
def DrawnC (w : World) (e : Ending) (w' : World) : Prop :=
  ∃ A c ds, e = .returned (.slice A ds.length c) ∧ DrawersIn w' w'.heap.size A ds.length c ds ∧ cabSz ds ≤ 4096 ∧ Below w.heap.size w w'
theorem drawCab (A : Option Addr) (n c : Nat) (bs : List Int) (w : World) (hb : BytesIn w w.heap.size A n c bs) :
    Calls Try.prog 54 #[.slice A n c] w fun e w1 => e = .returned (.pointer (some ⟨w.heap.size, 0, none⟩)) ∧ Below w.heap.size w w1 ∧ Calls Try.prog 63 #[.pointer (some ⟨w.heap.size, 0, none⟩)] w1 (fun e w' => DrawnCab w.heap.size w.heap.size 0 w1 e w' ∧ Below w.heap.size w w') :=
  (l6Open A n c bs w.heap.size w (Nat.le_refl _) hb).mono fun e w1 ⟨he, hb1, hr⟩ => ⟨he, hb1, (l92Cabinet w.heap.size w.heap.size 0 w1 (by omega) hr hb1.size).mono fun e2 w2 hd => ⟨hd, by
    obtain ⟨_, _, _, _, _, _, hg, _⟩ := hd
    exact hb1.grown hg hb1.size (fun k hk => by injection hk with hk; omega)⟩⟩
theorem drawCabinetValid (A : Option Addr) (n c : Nat) (bs : List Int) (w : World) (hb : BytesIn w w.heap.size A n c bs) :
    Calls Try.prog 31 #[.slice A n c] w (DrawnC w) := by
  have HD := Lib.hid (drawCab A n c bs w hb); clear hb
  go_enter Try.func31, Try.ntmps31
  go_wp2_with fail
  refine HD.out.mono ?_
  rintro e w1 ⟨rfl, _, hC⟩
  have HC := Lib.hid hC; clear hC
  go_wp2_with fail
  refine HC.out.mono ?_
  rintro e w2 ⟨⟨A2, c2, ds, rfl, h1, h2, _⟩, b2⟩
  have H1 := Lib.hid h1; clear h1
  go_wp2
  go_ret
  exact ⟨A2, c2, ds, rfl, H1.out, h2, b2⟩

theorem sorted_append {a b : List Pad} (h : sortedOK (a ++ b)) : sortedOK a ∧ sortedOK b := by
  rw [sorted_iff, sorted_iff]
  rw [sorted_iff, List.pairwise_append] at h
  exact ⟨⟨fun p hp => h.1 p (List.mem_append.2 (.inl hp)), h.2.1⟩, ⟨fun p hp => h.1 p (List.mem_append.2 (.inr hp)), h.2.2.1⟩⟩
theorem cabOK_parts {css : List (List Pad)} (h : cabOK css) (k : Nat) : cabOK (css.take k) ∧ cabOK (css.drop k) := by
  obtain ⟨h1, h2, h3⟩ := h
  have e : css.flatten = (css.take k).flatten ++ (css.drop k).flatten := by rw [← List.flatten_append, List.take_append_drop]
  rw [e] at h3
  obtain ⟨s1, s2⟩ := sorted_append h3
  exact ⟨⟨by rw [List.length_take]; omega, fun x hx => h2 x (List.mem_of_mem_take hx), s1⟩, ⟨by rw [List.length_drop]; omega, fun x hx => h2 x (List.mem_of_mem_drop hx), s2⟩⟩
theorem flat_bounds : ∀ {css : List (List Pad)}, (∀ ps ∈ css, lenOK ps) → css.length ≤ css.flatten.length ∧ css.flatten.length ≤ 4 * css.length
  | [], _ => by simp
  | ps :: r, h => by
    have h1 := h ps (by simp)
    obtain ⟨h2, h3⟩ := flat_bounds (css := r) (fun x hx => h x (by simp [hx]))
    unfold lenOK at h1
    rw [List.flatten_cons, List.length_append, List.length_cons]; omega
theorem cabSz_take {ds : List Drawer} (k : Nat) : cabSz (ds.take k) ≤ cabSz ds ∧ cabSz (ds.drop k) ≤ cabSz ds := by
  have := cabSz_append (ds.take k) (ds.drop k)
  rw [List.take_append_drop] at this; omega
theorem run_uptoA {P : Program} {t : TypeId} {sz : Nat} (ht : P.underlying t = some (.slice (P.elem t))) (hs : ∀ w, (sizeOf (P.elem t)).run P w = .ok sz w) (a : Option Addr) (n c k : Nat) (hk : k ≤ c) (w : World) :
    (Instr.slice t (.slice a n c) none (some (.int .i64 (k : Int))) none).run P w = .ok (.slice a k c) w := by
  rw [run_slice_h w t a n c ht .i64 (k : Int) (by omega) (by omega), hs]
  rcases a with _ | a
  · simp [Result.andThen, sliced]
  · simp [Result.andThen, sliced, Addr.add]
end Go.Proofs.Ytbeaandjhlpaeaa
