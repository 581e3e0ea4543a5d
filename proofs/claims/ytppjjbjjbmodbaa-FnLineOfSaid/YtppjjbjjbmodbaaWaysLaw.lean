/-
  Ways to read a line are multiplied, as plain numbers; slices of a line. Conditions: few forms, few words.
-/
import Derived.Test.YtppjjbjjbmodbaaReadT
namespace Go.Proofs.Ytppjjbjjbmodbaa
open Go.ChangeShapes Go.WideShapes Go.ChangeAt Go.RowKit Go.Maps
set_option maxRecDepth 100000

theorem run_uptoA {P : Program} {t : TypeId} {sz : Nat} (ht : P.underlying t = some (.slice (P.elem t))) (hs : ∀ w, (sizeOf (P.elem t)).run P w = .ok sz w) (a : Option Addr) (n c k : Nat) (hk : k ≤ c) (w : World) :
    (Instr.slice t (.slice a n c) none (some (.int .i64 (k : Int))) none).run P w = .ok (.slice a k c) w := by
  rw [run_slice_h w t a n c ht .i64 (k : Int) (by omega) (by omega), hs]
  cases a <;> simp [Result.andThen, sliced, Addr.add]
theorem elemWr : Try.prog.underlying 27 = some (.slice (Try.prog.elem 27)) := by kernel_rfl
theorem sizeWr : ∀ w, (sizeOf (Try.prog.elem 27)).run Try.prog w = .ok 2 w := fun w => by kernel_rfl
theorem WrsIn.uptoS {w : World} {B n c k : Nat} {A : Option Addr} {xs : List Wr} (h : WrsIn w B A n c xs) (hk : k ≤ n) : WrsIn w B A k c (xs.take k) :=
  ⟨by rw [List.length_take, h.1]; omega, Nat.le_trans hk h.2.1, h.2.2.1, by have := h.2.2.2.1.take hk; rwa [flat_take wrC_len] at this, fun x hx => h.2.2.2.2 x (List.mem_of_mem_take hx)⟩
theorem WrsIn.fromS {w : World} {B n c k : Nat} {A : Option Addr} {xs : List Wr} (h : WrsIn w B A n c xs) (hk : k ≤ n) : WrsIn w B (fromB A k c 2) (n - k) (c - k) (xs.drop k) :=
  ⟨by rw [List.length_drop, h.1], by have := h.2.1; omega, by have := h.2.2.1; omega, by have := h.2.2.2.1.fromS hk h.2.1; rwa [flat_drop wrC_len] at this, fun x hx => h.2.2.2.2 x (List.mem_of_mem_drop hx)⟩

def prodN : List Nat → Nat
  | [] => 1
  | c :: r => c * prodN r
theorem prodN_app (a b : List Nat) : prodN (a ++ b) = prodN a * prodN b := by
  induction a with
  | nil => simp [prodN]
  | cons c r ih => simp only [List.cons_append, prodN, ih, Nat.mul_assoc]
theorem prodN_le {cs : List Nat} (h : ∀ c ∈ cs, c ≤ 20) : prodN cs ≤ 20 ^ cs.length := by
  induction cs with
  | nil => simp [prodN]
  | cons c r ih =>
    have h1 := h c (by simp)
    have h2 := ih (fun x hx => h x (by simp [hx]))
    rw [prodN, List.length_cons, Nat.pow_succ, Nat.mul_comm (20 ^ r.length) 20]
    exact Nat.mul_le_mul h1 h2
theorem waysF_small : ∀ {cs : List Nat} {n : Nat}, (∀ c ∈ cs, c ≤ 20) → n * 20 ^ cs.length ≤ 1000000000000000 → waysF cs (n : Int) = ((n * prodN cs : Nat) : Int)
  | [], n, _, _ => by simp [waysF, prodN]
  | c :: r, n, h, hb => by
    have h1 := h c (by simp)
    have h3 : 1 ≤ 20 ^ r.length := Nat.pos_of_ne_zero (by simp)
    rw [List.length_cons, Nat.pow_succ, Nat.mul_comm (20 ^ r.length) 20, ← Nat.mul_assoc] at hb
    have h4 : n * c * 20 ^ r.length ≤ n * 20 * 20 ^ r.length := Nat.mul_le_mul_right _ (Nat.mul_le_mul_left _ h1)
    have h5 : n * c ≤ n * c * 20 ^ r.length := Nat.le_mul_of_pos_right _ h3
    have ih := waysF_small (cs := r) (n := n * c) (fun x hx => h x (by simp [hx])) (by omega)
    rw [Int.natCast_mul] at ih
    rw [waysF, if_neg (by rw [← Int.natCast_mul]; omega), ih, prodN, Nat.mul_assoc]
theorem cntOf_le {xs : List Sg} {ws : List (List UInt8)} (h : ws.length ≤ 20) (L : List Dat) : ∀ c ∈ L.map (cntOf xs ws), c ≤ 20 := by
  intro c hc
  obtain ⟨d, _, rfl⟩ := List.mem_map.1 hc
  have := readOf_len xs ws d
  unfold cntOf; omega
theorem waysOf_small {xs : List Sg} {ws : List (List UInt8)} {L : List Dat} (hB : (sysB xs && dicB ws) = true) (hL : lineB L = true) (hl : L.length ≤ 4) : waysOf xs ws L = ((prodN (L.map (cntOf xs ws)) : Nat) : Int) := by
  have h20 : ws.length ≤ 20 := by rw [Bool.and_eq_true] at hB; exact (dicB_iff.1 hB.2).1
  unfold waysOf
  rw [if_pos ⟨hB, hL⟩]
  have := waysF_small (cs := L.map (cntOf xs ws)) (n := 1) (cntOf_le h20 L) (by
    rw [List.length_map, Nat.one_mul]
    exact Nat.le_trans (Nat.pow_le_pow_right (by omega) hl) (by decide))
  rw [Nat.one_mul] at this
  exact this
/-- Ways are multiplied. -/
theorem ways_mul {xs : List Sg} {ws : List (List UInt8)} {L : List Dat} (hl : L.length ≤ 4) (h0 : 0 ≤ waysOf xs ws L) (k : Nat) :
    waysOf xs ws (L.take k) * waysOf xs ws (L.drop k) = waysOf xs ws L ∧ waysOf xs ws [] = 1 ∧ waysOf xs ws L ≤ 160000 := by
  by_cases hB : (sysB xs && dicB ws) = true ∧ lineB L = true
  · obtain ⟨hB, hL⟩ := hB
    have h20 : ws.length ≤ 20 := by rw [Bool.and_eq_true] at hB; exact (dicB_iff.1 hB.2).1
    have h1 : lineB (L.take k) = true := lineB_iff.2 ⟨Nat.le_trans (by rw [List.length_take]; omega) (lineB_iff.1 hL).1, fun d hd => (lineB_iff.1 hL).2 d (List.mem_of_mem_take hd)⟩
    have h2 : lineB (L.drop k) = true := lineB_iff.2 ⟨Nat.le_trans (by rw [List.length_drop]; omega) (lineB_iff.1 hL).1, fun d hd => (lineB_iff.1 hL).2 d (List.mem_of_mem_drop hd)⟩
    rw [waysOf_small hB hL hl, waysOf_small hB h1 (by rw [List.length_take]; omega), waysOf_small hB h2 (by rw [List.length_drop]; omega), waysOf_small hB (show lineB [] = true by decide) (by simp)]
    refine ⟨?_, rfl, ?_⟩
    · rw [← Int.natCast_mul, ← prodN_app, ← List.map_append, List.take_append_drop]
    · have h3 := prodN_le (cntOf_le (xs := xs) h20 L)
      have h4 : 20 ^ (L.map (cntOf xs ws)).length ≤ 20 ^ 4 := Nat.pow_le_pow_right (by omega) (by rw [List.length_map]; exact hl)
      have h5 : (20 : Nat) ^ 4 = 160000 := rfl
      omega
  · unfold waysOf at h0
    rw [if_neg hB] at h0
    omega
end Go.Proofs.Ytppjjbjjbmodbaa
