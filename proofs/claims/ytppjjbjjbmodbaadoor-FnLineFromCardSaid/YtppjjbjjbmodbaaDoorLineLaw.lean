/-
  Lines read back from their texts, as plain lists. Conditions: none.
-/
import Derived.Test.YtppjjbjjbmodbaaDoorLineS
namespace Go.Proofs.YtppjjbjjbmodbaaDoor
set_option maxRecDepth 100000

theorem mem_sText {s : Stroke} {c : UInt8} (ho : okS s = true) (h : c ∈ sText s) : c ≠ 32 := by
  obtain ⟨h1, h2, h3, h4⟩ := okS_iff.1 ho
  unfold sText at h
  rw [List.mem_cons, List.mem_singleton] at h
  rcases h with rfl | rfl
  · intro e
    have := congrArg UInt8.toNat e
    rw [UInt8.toNat_ofNat'] at this
    have e32 : (32 : UInt8).toNat = 32 := rfl
    omega
  · unfold sizeL; repeat' split
    all_goals decide
theorem mem_wrText {ss : List Stroke} {p : Int} {c : UInt8} (h : c ∈ wrText ss p) : c ≠ 32 := by
  cases hb : wrB ss p with
  | false => rw [wrText_no hb] at h; cases h
  | true =>
    obtain ⟨ho, h0, h2⟩ := wrB_iff.1 hb
    rw [wrText_yes hb] at h
    rcases List.mem_cons.1 h with rfl | h
    · unfold markL; repeat' split
      all_goals decide
    · rw [outText_yes ho] at h
      unfold textS at h
      obtain ⟨s, hs, hc⟩ := List.mem_flatMap.1 h
      exact mem_sText (outB_ok ho hs) hc
theorem cutP_app (p : List UInt8) (h : ∀ c ∈ p, c ≠ 32) (cur r : List UInt8) : cutP cur (p ++ r) = cutP (cur ++ p) r := by
  induction p generalizing cur with
  | nil => simp
  | cons c p ih =>
    rw [List.cons_append, cutP, if_neg (h c (by simp)), ih (fun x hx => h x (by simp [hx]))]
    simp
theorem cutS_join : ∀ (x : List UInt8) (r : List (List UInt8)), (∀ p ∈ x :: r, ∀ c ∈ p, c ≠ 32) → cutS (Lib.join (x :: r) [32]) = x :: r
  | x, [], h => by
    rw [Lib.join_one]
    have := cutP_app x (h x (by simp)) [] []
    rw [List.append_nil] at this
    unfold cutS
    rw [this, cutP, List.nil_append]
  | x, y :: r, h => by
    have e : Lib.join (x :: y :: r) [32] = x ++ (32 :: Lib.join (y :: r) [32]) := by
      rw [Lib.join_cons, Lib.join_cons]
      unfold Lib.joinTail
      simp
    rw [e]
    unfold cutS
    rw [cutP_app x (h x (by simp)), cutP, if_pos rfl, List.nil_append]
    have := cutS_join y r (fun p hp => h p (by simp [hp]))
    unfold cutS at this
    rw [this]
theorem join_cut (cur l : List UInt8) : Lib.join (cutP cur l) [32] = cur ++ l := by
  induction l generalizing cur with
  | nil => rw [cutP, Lib.join_one, List.append_nil]
  | cons c r ih =>
    rw [cutP]
    split
    · rename_i hc
      subst hc
      have h0 : 0 < (cutP [] r).length := by
        have : ∀ r cur, 0 < (cutP cur r).length := by
          intro r
          induction r with
          | nil => intro cur; simp [cutP]
          | cons c r ih => intro cur; unfold cutP; split <;> first | simp | exact ih _
        exact this r []
      obtain ⟨y, q, hq⟩ : ∃ y q, cutP [] r = y :: q := by
        cases hh : cutP [] r with
        | nil => rw [hh] at h0; simp at h0
        | cons y q => exact ⟨y, q, rfl⟩
      have := ih []
      rw [hq] at this ⊢
      have e : Lib.join (cur :: y :: q) [32] = cur ++ (32 :: Lib.join (y :: q) [32]) := by
        rw [Lib.join_cons, Lib.join_cons]
        unfold Lib.joinTail
        simp
      rw [e, this, List.nil_append]
    · rw [ih, List.append_assoc]; rfl
theorem count_join : ∀ (x : List UInt8) (r : List (List UInt8)), (∀ p ∈ x :: r, ∀ c ∈ p, c ≠ 32) → (Lib.join (x :: r) [32]).count 32 = r.length
  | x, [], h => by
    rw [Lib.join_one]
    exact List.count_eq_zero.2 (fun hm => h x (by simp) 32 hm rfl)
  | x, y :: r, h => by
    have e : Lib.join (x :: y :: r) [32] = x ++ (32 :: Lib.join (y :: r) [32]) := by
      rw [Lib.join_cons, Lib.join_cons]
      unfold Lib.joinTail
      simp
    have h0 : x.count 32 = 0 := List.count_eq_zero.2 (fun hm => h x (by simp) 32 hm rfl)
    rw [e, List.count_append, h0, List.count_cons_self, count_join y r (fun p hp => h p (by simp [hp])), List.length_cons]
    omega
theorem allFrom_text : ∀ {L : List Dat}, (∀ d ∈ L, datB d = true) → allFrom (L.map datT) = some L
  | [], _ => rfl
  | d :: r, h => by
    have h1 := h d (by simp)
    rw [List.map_cons, allFrom, allFrom_text (L := r) (fun x hx => h x (by simp [hx]))]
    have : wrFrom (datT d) = some d := wr_text h1
    rw [this]; rfl
theorem allFrom_map : ∀ {ps : List (List UInt8)} {L : List Dat}, allFrom ps = some L → L.map datT = ps ∧ ∀ d ∈ L, datB d = true
  | [], L, h => by simp [allFrom] at h; subst h; simp
  | p :: r, L, h => by
    rw [allFrom] at h
    obtain ⟨d, hd, h⟩ := Option.bind_eq_some_iff.1 h
    obtain ⟨Q, hQ, rfl⟩ := Option.map_eq_some_iff.1 h
    obtain ⟨h1, h2⟩ := allFrom_map hQ
    obtain ⟨h3, h4⟩ := wr_from (ss := d.1) (p := d.2) hd
    refine ⟨by rw [List.map_cons, h1]; congr 1, fun x hx => ?_⟩
    rcases List.mem_cons.1 hx with rfl | hx
    · exact h3
    · exact h2 x hx
/-- The text of a line is read back. -/
theorem line_text {L : List Dat} (hb : lineB L = true) (h0 : lineT L ≠ []) : lineFrom (lineT L) = some L ∧ (lineT L).count 32 = L.length - 1 ∧ 0 < L.length := by
  obtain ⟨h20, hd⟩ := lineB_iff.1 hb
  cases L with
  | nil => exact absurd rfl h0
  | cons d r =>
    have hm : ∀ p ∈ datT d :: r.map datT, ∀ c ∈ p, c ≠ 32 := fun p hp c hc => by
      rw [← List.map_cons] at hp
      obtain ⟨x, _, rfl⟩ := List.mem_map.1 hp
      exact mem_wrText hc
    have e : cutS (lineT (d :: r)) = (d :: r).map datT := by
      unfold lineT
      rw [List.map_cons]
      exact cutS_join _ _ hm
    refine ⟨?_, ?_, by simp⟩
    · unfold lineFrom
      rw [if_neg h0, e, if_pos (by simpa using h20)]
      exact allFrom_text hd
    · unfold lineT
      rw [List.map_cons, count_join _ _ hm]
      simp
theorem cutP_more (cur l : List UInt8) : cutP cur (l ++ [32]) = cutP cur l ++ [[]] := by
  induction l generalizing cur with
  | nil => simp [cutP]
  | cons c r ih =>
    rw [List.cons_append, cutP, cutP]
    split
    · rw [ih]; rfl
    · rw [ih]
/-- What is read is a line, and no text with one more space is. -/
theorem line_from {l : List UInt8} {L : List Dat} (h : lineFrom l = some L) : lineB L = true ∧ lineT L = l ∧ lineFrom (l ++ [32]) = none := by
  have hm : lineFrom (l ++ [32]) = none := lineFrom_no (p := []) (by simp) (by unfold cutS; rw [cutP_more]; simp) rfl
  by_cases h0 : l = []
  · subst h0
    unfold lineFrom at h
    rw [if_pos rfl] at h
    injection h with h
    subst h
    exact ⟨by decide, rfl, hm⟩
  · unfold lineFrom at h
    rw [if_neg h0] at h
    split at h
    · rename_i h20
      obtain ⟨h1, h2⟩ := allFrom_map h
      have hl : L.length ≤ 20 := by
        have := congrArg List.length h1
        rw [List.length_map] at this
        omega
      refine ⟨lineB_iff.2 ⟨hl, h2⟩, ?_, hm⟩
      unfold lineT
      rw [h1]
      have := join_cut [] l
      rw [List.nil_append] at this
      exact this
    · cases h
end Go.Proofs.YtppjjbjjbmodbaaDoor
