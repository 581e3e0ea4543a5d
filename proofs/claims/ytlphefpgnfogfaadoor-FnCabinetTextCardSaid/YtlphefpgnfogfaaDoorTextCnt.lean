/-
  How many lines and colons the text of a cabinet has. Conditions: none.
-/
import Derived.Test.YtlphefpgnfogfaaDoorTextLaw
namespace Go.Proofs.YtlphefpgnfogfaaDoor
set_option maxRecDepth 100000

theorem dec_bytes : ∀ (n : Nat), ∀ b ∈ Lib.decDigits n, 48 ≤ b.toNat ∧ b.toNat ≤ 57 := by
  intro n
  induction n using Nat.strongRecOn with
  | _ n ih =>
    intro b hb
    rw [Lib.decDigits] at hb
    split at hb
    · have hb := List.mem_singleton.1 hb; rw [hb, UInt8.toNat_ofNat']; omega
    · rcases List.mem_append.1 hb with hb | hb
      · exact ih (n / 10) (by omega) b hb
      · have hb := List.mem_singleton.1 hb; rw [hb, UInt8.toNat_ofNat']; omega
theorem ok_bytes {p : Pad} (h : okP p = true) : ∀ b ∈ p.case.data.toList, 97 ≤ b.toNat := by
  unfold okP padB wordB at h
  rw [Bool.and_eq_true, Bool.and_eq_true] at h
  intro b hb
  have := List.all_eq_true.1 h.2.1 b hb
  unfold isLetter at this
  simp at this
  exact this.1
theorem none_of {l : List UInt8} {c : UInt8} (h : ∀ b ∈ l, b ≠ c) : l.count c = 0 := List.count_eq_zero.2 (fun hc => h c hc rfl)
theorem dayT_cnt {p : Pad} (h : okP p = true) : (dayT p).count 10 = 0 ∧ (dayT p).count 58 = 1 := by
  unfold dayT
  have hd := dec_bytes p.day.toNat
  have hc := ok_bytes h
  refine ⟨?_, ?_⟩
  · rw [List.count_append, List.count_append, none_of (fun b hb e => by subst e; have := (hd _ hb).1; simp at this), none_of (l := p.case.data.toList) (fun b hb e => by subst e; have := hc _ hb; simp at this)]; rfl
  · rw [List.count_append, List.count_append, none_of (fun b hb e => by subst e; have := (hd _ hb).2; simp at this), none_of (l := p.case.data.toList) (fun b hb e => by subst e; have := hc _ hb; simp at this)]; rfl
theorem join_cnt {c : UInt8} (hc : c ≠ 32) (L : List (List UInt8)) : (Lib.join L [32]).count c = (L.map (·.count c)).sum := by
  cases L with
  | nil => simp [Lib.join_nil]
  | cons x r =>
    rw [Lib.join_cons, List.count_append, List.map_cons, List.sum_cons]
    congr 1
    unfold Lib.joinTail
    induction r with
    | nil => simp
    | cons y r ih =>
      rw [List.map_cons, List.flatten_cons, List.count_append, List.count_append, ih, List.map_cons, List.sum_cons]
      have : [(32 : UInt8)].count c = 0 := List.count_eq_zero.2 (by simpa using hc)
      omega
theorem drawT_cnt : ∀ {ps : List Pad}, (∀ p ∈ ps, okP p = true) → (drawT ps).count 10 = 0 ∧ (drawT ps).count 58 = ps.length := by
  intro ps h
  unfold drawT
  rw [join_cnt (by decide), join_cnt (by decide), List.map_map, List.map_map]
  induction ps with
  | nil => simp
  | cons p r ih =>
    obtain ⟨h1, h2⟩ := dayT_cnt (h p (by simp))
    obtain ⟨h3, h4⟩ := ih (fun q hq => h q (by simp [hq]))
    simp only [List.map_cons, List.sum_cons, Function.comp, h1, h2, List.length_cons] at h3 h4 ⊢
    constructor
    · rw [h3]
    · rw [h4]; omega
theorem cabTxt_cnt : ∀ {css : List (List Pad)}, (∀ ps ∈ css, ∀ p ∈ ps, okP p = true) → (cabTxt css).count 10 = css.length ∧ (cabTxt css).count 58 = css.flatten.length
  | [], _ => by simp [cabTxt]
  | ps :: r, h => by
    obtain ⟨h1, h2⟩ := drawT_cnt (h ps (by simp))
    obtain ⟨h3, h4⟩ := cabTxt_cnt (css := r) (fun q hq => h q (by simp [hq]))
    unfold cabTxt at h3 h4 ⊢
    rw [List.flatMap_cons, List.count_append, List.count_append, List.count_append, List.count_append, h1, h2, h3, h4, List.length_cons, List.flatten_cons, List.length_append]
    refine ⟨?_, ?_⟩
    · show 0 + 1 + r.length = r.length + 1; omega
    · show ps.length + 0 + r.flatten.length = _; omega
end Go.Proofs.YtlphefpgnfogfaaDoor
