/-
  The points of an outline: where they lie, how they are counted twice; nothing of the program. Conditions: none.
-/
import Derived.Test.YtdejgnlmofgdjaaDoorOutText
namespace Go.Proofs.YtdejgnlmofgdjaaDoor
open Go.ChangeShapes Go.WideShapes Go.ChangeAt Go.RowKit
set_option maxRecDepth 100000

abbrev Pt := Int × Int
def stX (d : Int) : Int := if d = 0 ∨ d = 1 ∨ d = 7 then 1 else if d = 2 ∨ d = 6 then 0 else -1
def stY (d : Int) : Int := if d = 1 ∨ d = 2 ∨ d = 3 then 1 else if d = 0 ∨ d = 4 then 0 else -1
def stepP (p : Pt) (d : Int) : Pt := (p.1 + stX d, p.2 + stY d)
def endU (p : Pt) (us : List Int) : Pt := us.foldl stepP p
def trailU : Pt → List Int → List Pt
  | p, [] => [p]
  | p, d :: us => p :: trailU (stepP p d) us
def unitsS (ss : List Stroke) : List Int := ss.flatMap fun s => List.replicate s.size.toNat s.dir
def ptsS (ss : List Stroke) : List Pt := trailU (0, 0) (unitsS ss)
def endS (ss : List Stroke) : Pt := endU (0, 0) (unitsS ss)

theorem stX_bd (d : Int) : -1 ≤ stX d ∧ stX d ≤ 1 := by unfold stX; split <;> (try split) <;> omega
theorem stY_bd (d : Int) : -1 ≤ stY d ∧ stY d ≤ 1 := by unfold stY; split <;> (try split) <;> omega
theorem endU_snoc (p : Pt) (us : List Int) (d : Int) : endU p (us ++ [d]) = stepP (endU p us) d := by simp [endU]
theorem trailU_snoc (p : Pt) (us : List Int) (d : Int) : trailU p (us ++ [d]) = trailU p us ++ [stepP (endU p us) d] := by
  induction us generalizing p with
  | nil => rfl
  | cons x r ih => simp only [List.cons_append, trailU, ih]; rfl
theorem trailU_len (p : Pt) (us : List Int) : (trailU p us).length = us.length + 1 := by
  induction us generalizing p with
  | nil => rfl
  | cons x r ih => simp only [trailU, List.length_cons, ih]
theorem trailU_last (p : Pt) (us : List Int) : (trailU p us)[us.length]? = some (endU p us) := by
  induction us generalizing p with
  | nil => rfl
  | cons x r ih => simp only [trailU, List.length_cons, List.getElem?_cons_succ, ih]; rfl
theorem endU_bd (p : Pt) (us : List Int) : p.1 - us.length ≤ (endU p us).1 ∧ (endU p us).1 ≤ p.1 + us.length ∧ p.2 - us.length ≤ (endU p us).2 ∧ (endU p us).2 ≤ p.2 + us.length := by
  induction us generalizing p with
  | nil => simp [endU]
  | cons d r ih =>
    have h := ih (stepP p d)
    have hx := stX_bd d; have hy := stY_bd d
    unfold stepP at h
    dsimp only at h
    have e : endU p (d :: r) = endU (p.1 + stX d, p.2 + stY d) r := rfl
    rw [e, List.length_cons]
    push_cast
    omega
theorem trailU_bd (p : Pt) (us : List Int) (m : Nat) (hm : us.length ≤ m) : ∀ q ∈ trailU p us, p.1 - m ≤ q.1 ∧ q.1 ≤ p.1 + m ∧ p.2 - m ≤ q.2 ∧ q.2 ≤ p.2 + m := by
  induction us generalizing p m with
  | nil => intro q hq; simp [trailU] at hq; subst hq; omega
  | cons d r ih =>
    intro q hq
    simp only [trailU, List.mem_cons] at hq
    rcases hq with rfl | hq
    · omega
    · obtain ⟨k, rfl⟩ : ∃ k, m = k + 1 := ⟨m - 1, by simp at hm; omega⟩
      have h := ih (stepP p d) k (by simp at hm; omega) q hq
      have hx := stX_bd d; have hy := stY_bd d
      unfold stepP at h
      dsimp only at h
      omega
theorem unitsS_app (a b : List Stroke) : unitsS (a ++ b) = unitsS a ++ unitsS b := by simp [unitsS]
theorem unitsS_step {ss : List Stroke} {k : Nat} (h : k < ss.length) : unitsS (ss.take (k + 1)) = unitsS (ss.take k) ++ List.replicate (strokeAt ss k).size.toNat (strokeAt ss k).dir := by
  rw [List.take_add_one, strokeAt_some h]; unfold unitsS; simp
theorem unitsS_len : ∀ {ss : List Stroke}, (∀ s ∈ ss, okS s = true) → (unitsS ss).length ≤ 3 * ss.length
  | [], _ => by simp [unitsS]
  | s :: r, h => by
    have h1 := okS_iff.1 (h s (by simp))
    have h2 := unitsS_len (ss := r) fun x hx => h x (by simp [hx])
    have e : unitsS (s :: r) = List.replicate s.size.toNat s.dir ++ unitsS r := by simp [unitsS]
    rw [e, List.length_append, List.length_replicate, List.length_cons]
    omega
theorem rep_succ (n : Nat) (d : Int) : List.replicate (n + 1) d = List.replicate n d ++ [d] := by rw [List.replicate_succ']

/-- How many points were there already. -/
def touchN : List Pt → List Pt → Nat
  | _, [] => 0
  | seen, p :: r => (if p ∈ seen then 1 else 0) + touchN (p :: seen) r
def touchS (ss : List Stroke) : Nat := touchN [] (ptsS ss)
theorem touchN_app (seen a b : List Pt) : touchN seen (a ++ b) = touchN seen a + touchN (a.reverse ++ seen) b := by
  induction a generalizing seen with
  | nil => simp [touchN]
  | cons p r ih => simp [touchN, ih, Nat.add_assoc]
theorem touchN_mono {s s' : List Pt} (h : ∀ p ∈ s, p ∈ s') (l : List Pt) : touchN s l ≤ touchN s' l := by
  induction l generalizing s s' with
  | nil => simp [touchN]
  | cons p r ih =>
    have h2 := ih (s := p :: s) (s' := p :: s') (fun q hq => by
      rcases List.mem_cons.1 hq with rfl | hq
      · simp
      · exact List.mem_cons_of_mem _ (h q hq))
    simp only [touchN]
    by_cases hp : p ∈ s
    · rw [if_pos hp, if_pos (h p hp)]; omega
    · rw [if_neg hp]; split <;> omega
theorem touchN_snoc (l : List Pt) (p : Pt) : touchN [] (l ++ [p]) = touchN [] l + (if p ∈ l then 1 else 0) := by
  rw [touchN_app]; simp [touchN]
theorem touchN_le (s l : List Pt) : touchN s l ≤ l.length := by
  induction l generalizing s with
  | nil => simp [touchN]
  | cons p r ih => have := ih (p :: s); simp only [touchN, List.length_cons]; split <;> omega
def mv (t p : Pt) : Pt := (p.1 + t.1, p.2 + t.2)
theorem mv_inj {t p q : Pt} : mv t p = mv t q ↔ p = q := by
  unfold mv
  constructor
  · intro h
    injection h with h1 h2
    exact Prod.ext (by omega) (by omega)
  · rintro rfl; rfl
theorem touchN_mv (t : Pt) (s l : List Pt) : touchN (s.map (mv t)) (l.map (mv t)) = touchN s l := by
  induction l generalizing s with
  | nil => rfl
  | cons p r ih =>
    have h := ih (p :: s)
    rw [List.map_cons] at h
    simp only [List.map_cons, touchN, h]
    have e : (mv t p ∈ s.map (mv t)) ↔ p ∈ s := by
      rw [List.mem_map]
      constructor
      · rintro ⟨q, hq, e⟩; rw [mv_inj] at e; subst e; exact hq
      · intro hp; exact ⟨p, hp, rfl⟩
    by_cases hp : p ∈ s
    · rw [if_pos (e.2 hp), if_pos hp]
    · rw [if_neg (fun h => hp (e.1 h)), if_neg hp]
theorem stepP_mv (t p : Pt) (d : Int) : stepP (mv t p) d = mv t (stepP p d) := by unfold stepP mv; exact Prod.ext (by simp; omega) (by simp; omega)
theorem trailU_mv (t p : Pt) (us : List Int) : trailU (mv t p) us = (trailU p us).map (mv t) := by
  induction us generalizing p with
  | nil => rfl
  | cons d r ih => simp only [trailU, List.map_cons, stepP_mv, ih]
theorem endU_mv (t p : Pt) (us : List Int) : endU (mv t p) us = mv t (endU p us) := by
  induction us generalizing p with
  | nil => rfl
  | cons d r ih =>
    show endU (stepP (mv t p) d) r = mv t (endU (stepP p d) r)
    rw [stepP_mv, ih]
theorem trailU_app (p : Pt) (us vs : List Int) : trailU p (us ++ vs) = trailU p us ++ (trailU (endU p us) vs).tail := by
  induction us generalizing p with
  | nil => cases vs <;> simp [trailU, endU]
  | cons d r ih => simp only [List.cons_append, trailU, ih]; rfl
theorem trailU_cons (p : Pt) (us : List Int) : trailU p us = p :: (trailU p us).tail := by cases us <;> rfl
theorem endS_app (a b : List Stroke) : endS (a ++ b) = ((endS a).1 + (endS b).1, (endS a).2 + (endS b).2) := by
  unfold endS
  rw [unitsS_app]
  have e : endU (0, 0) (unitsS a ++ unitsS b) = endU (endU (0, 0) (unitsS a)) (unitsS b) := by simp [endU]
  have e2 : endU (0, 0) (unitsS a) = mv (endU (0, 0) (unitsS a)) (0, 0) := by unfold mv; exact Prod.ext (by simp) (by simp)
  rw [e, e2, endU_mv, ← e2]
  unfold mv
  exact Prod.ext (by simp; omega) (by simp; omega)
theorem touchS_app (a b : List Stroke) : touchS a + touchS b ≤ touchS (a ++ b) := by
  unfold touchS ptsS
  rw [unitsS_app, trailU_app, touchN_app]
  generalize unitsS a = ua
  generalize unitsS b = ub
  have h1 : touchN [] (trailU (0, 0) ub) = touchN [endU (0, 0) ua] (trailU (endU (0, 0) ua) ub).tail := by
    have e2 : endU (0, 0) ua = mv (endU (0, 0) ua) (0, 0) := by unfold mv; exact Prod.ext (by simp) (by simp)
    have h := touchN_mv (endU (0, 0) ua) [] (trailU (0, 0) ub)
    rw [← trailU_mv, ← e2, List.map_nil] at h
    rw [← h]
    conv => lhs; rw [trailU_cons]
    simp [touchN]
  rw [h1]
  refine Nat.add_le_add_left (touchN_mono (fun p hp => ?_) _) _
  rw [List.mem_singleton] at hp
  subst hp
  rw [List.append_nil, List.mem_reverse]
  exact List.mem_of_getElem? (trailU_last (0, 0) ua)
end Go.Proofs.YtdejgnlmofgdjaaDoor
