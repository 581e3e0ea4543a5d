/-
  A line of words can be read with these words: plain lists. Conditions: few words.
-/
import Derived.Test.YtppjjbjjbmodbaaLineO
import Derived.Test.YtppjjbjjbmodbaaWaysLaw
namespace Go.Proofs.Ytppjjbjjbmodbaa

theorem allW_len {xs : List Sg} : ∀ {ws : List (List UInt8)} {L : List Dat}, allW xs ws = some L → L.length = ws.length
  | [], L, h => by injection h with h; subst h; rfl
  | l :: r, L, h => by
    obtain ⟨d, _, h⟩ := Option.bind_eq_some_iff.1 h
    obtain ⟨L', h2, rfl⟩ := Option.map_eq_some_iff.1 h
    rw [List.length_cons, List.length_cons, allW_len h2]
theorem allW_mem {xs : List Sg} : ∀ {ws : List (List UInt8)} {L : List Dat}, allW xs ws = some L → ∀ d ∈ L, ∃ l ∈ ws, wof xs l = some d
  | [], L, h, d, hd => by injection h with h; subst h; cases hd
  | l :: r, L, h, d, hd => by
    obtain ⟨d0, h1, h⟩ := Option.bind_eq_some_iff.1 h
    obtain ⟨L', h2, rfl⟩ := Option.map_eq_some_iff.1 h
    rcases List.mem_cons.1 hd with rfl | hd
    · exact ⟨l, by simp, h1⟩
    · obtain ⟨l2, hl, h3⟩ := allW_mem h2 d hd
      exact ⟨l2, by simp [hl], h3⟩
theorem allW_word {xs : List Sg} : ∀ {ws : List (List UInt8)} {L : List Dat}, allW xs ws = some L → ∀ l ∈ ws, wordB l = true
  | [], L, h, l, hl => by cases hl
  | l0 :: r, L, h, l, hl => by
    obtain ⟨d0, h1, h⟩ := Option.bind_eq_some_iff.1 h
    obtain ⟨L', h2, rfl⟩ := Option.map_eq_some_iff.1 h
    rcases List.mem_cons.1 hl with rfl | hl
    · obtain ⟨o, ho, _⟩ := Option.map_eq_some_iff.1 h1
      exact (wordOut_ok ho).2.1
    · exact allW_word h2 l hl
theorem allW_take {xs : List Sg} : ∀ {ws : List (List UInt8)} {L : List Dat} (k : Nat), allW xs ws = some L → allW xs (ws.take k) = some (L.take k)
  | [], L, k, h => by injection h with h; subst h; simp [allW]
  | l :: r, L, 0, h => by simp [allW]
  | l :: r, L, k + 1, h => by
    obtain ⟨d0, h1, h⟩ := Option.bind_eq_some_iff.1 h
    obtain ⟨L', h2, rfl⟩ := Option.map_eq_some_iff.1 h
    rw [List.take_succ_cons, List.take_succ_cons]
    show (wof xs l).bind (fun d => (allW xs (r.take k)).map (d :: ·)) = _
    rw [h1, allW_take k h2]; rfl
theorem lineOf_ok {xs : List Sg} {ws : List (List UInt8)} {L : List Dat} (h : lineOf xs ws = some L) : sysB xs = true ∧ ws.length ≤ 20 ∧ allW xs ws = some L := by
  unfold lineOf at h
  split at h
  · rename_i hc; exact ⟨hc.1, hc.2, h⟩
  · cases h
theorem lineOf_take {xs : List Sg} {ws : List (List UInt8)} {L : List Dat} (h : lineOf xs ws = some L) (k : Nat) : lineOf xs (ws.take k) = some (L.take k) := by
  obtain ⟨h1, h2, h3⟩ := lineOf_ok h
  unfold lineOf
  rw [if_pos ⟨h1, by rw [List.length_take]; omega⟩, allW_take k h3]

/-- The words that stand for the first time, of the first k. -/
def fresh (ws : List (List UInt8)) (i j : Nat) : Bool := decide (∀ q, q < j → wdAt ws q ≠ wdAt ws i)
theorem fresh_zero (ws : List (List UInt8)) (i : Nat) : fresh ws i 0 = true := by unfold fresh; rw [decide_eq_true_iff]; intro q hq; omega
theorem fresh_succ (ws : List (List UInt8)) (i j : Nat) : fresh ws i (j + 1) = (fresh ws i j && decide (wdAt ws j ≠ wdAt ws i)) := by
  unfold fresh
  rw [← Bool.decide_and]
  apply decide_eq_decide.2
  constructor
  · intro h; exact ⟨fun q hq => h q (by omega), h j (by omega)⟩
  · rintro ⟨h1, h2⟩ q hq
    by_cases h3 : q = j
    · subst h3; exact h2
    · exact h1 q (by omega)
def onceK (ws : List (List UInt8)) : Nat → List (List UInt8)
  | 0 => []
  | k + 1 => onceK ws k ++ if fresh ws k k = true then [wdAt ws k] else []
theorem onceK_len (ws : List (List UInt8)) : ∀ k, (onceK ws k).length ≤ k
  | 0 => Nat.le_refl _
  | k + 1 => by
    have := onceK_len ws k
    rw [onceK, List.length_append]
    split <;> simp <;> omega
theorem onceK_from (ws : List (List UInt8)) : ∀ k, ∀ l ∈ onceK ws k, ∃ j, j < k ∧ l = wdAt ws j
  | 0, l, h => by cases h
  | k + 1, l, h => by
    rw [onceK] at h
    rcases List.mem_append.1 h with h | h
    · obtain ⟨j, hj, e⟩ := onceK_from ws k l h
      exact ⟨j, by omega, e⟩
    · split at h
      · rw [List.mem_singleton] at h; exact ⟨k, by omega, h⟩
      · cases h
theorem onceK_has (ws : List (List UInt8)) : ∀ k i, i < k → wdAt ws i ∈ onceK ws k
  | 0, i, h => by omega
  | k + 1, i, h => by
    rw [onceK]
    by_cases hi : i < k
    · exact List.mem_append_left _ (onceK_has ws k i hi)
    · obtain rfl : i = k := by omega
      by_cases hf : fresh ws i i = true
      · rw [if_pos hf]; exact List.mem_append_right _ (by simp)
      · apply List.mem_append_left
        unfold fresh at hf
        rw [decide_eq_true_iff] at hf
        have : ∃ q, q < i ∧ wdAt ws q = wdAt ws i := by
          apply Classical.byContradiction
          intro hn
          exact hf (fun q hq e => hn ⟨q, hq, e⟩)
        obtain ⟨q, hq, e⟩ := this
        rw [← e]
        exact onceK_has ws i q hq
theorem onceK_nodup (ws : List (List UInt8)) : ∀ k, (onceK ws k).Nodup
  | 0 => List.nodup_nil
  | k + 1 => by
    rw [onceK]
    split
    · rename_i hf
      refine List.nodup_append.2 ⟨onceK_nodup ws k, by simp, ?_⟩
      intro a ha b hb
      rw [List.mem_singleton] at hb
      subst hb
      obtain ⟨j, hj, e⟩ := onceK_from ws k a ha
      unfold fresh at hf
      rw [decide_eq_true_iff] at hf
      rw [e]
      exact hf j hj
    · simpa using onceK_nodup ws k
theorem once_dic {ws : List (List UInt8)} {k : Nat} (hw : ∀ l ∈ ws, wordB l = true) (hk : k ≤ ws.length) (h20 : k ≤ 20) : dicB (onceK ws k) = true := by
  refine dicB_iff.2 ⟨Nat.le_trans (onceK_len ws k) h20, fun i hi => ⟨?_, fun j hj e => ?_⟩⟩
  · obtain ⟨q, hq, e⟩ := onceK_from ws k _ (wdAt_mem hi)
    rw [e]
    exact hw _ (wdAt_mem (by omega))
  · have hn := onceK_nodup ws k
    have h1 := wdAt_some (ws := onceK ws k) (k := j) (by omega)
    have h2 := wdAt_some hi
    rw [List.getElem?_eq_getElem (by omega)] at h1
    rw [List.getElem?_eq_getElem hi] at h2
    injection h1 with h1
    injection h2 with h2
    have h3 := List.pairwise_iff_getElem.1 hn j i (by omega) hi hj
    exact h3 (h1.trans (e.trans h2.symm))
theorem prodN_pos {cs : List Nat} (h : ∀ c ∈ cs, 1 ≤ c) : 1 ≤ prodN cs := by
  induction cs with
  | nil => exact Nat.le_refl _
  | cons c r ih =>
    have h1 := h c (by simp)
    have h2 := ih (fun x hx => h x (by simp [hx]))
    rw [prodN]
    exact Nat.mul_pos h1 h2
theorem once_ways {xs : List Sg} {ws : List (List UInt8)} {L : List Dat} (h : lineOf xs ws = some L) (h6 : ws.length ≤ 6) : 1 ≤ waysOf xs (onceK ws ws.length) L ∧ waysOf xs (onceK ws ws.length) L ≤ 1000000000000000 := by
  obtain ⟨h1, h2, h3⟩ := lineOf_ok h
  have hd := once_dic (allW_word h3) (Nat.le_refl _) h2
  have hl := allW_len h3
  have hLB : lineB L = true := lineB_iff.2 ⟨by omega, fun d hdm => by
    obtain ⟨l, _, hw⟩ := allW_mem h3 d hdm
    obtain ⟨o, ho, rfl⟩ := Option.map_eq_some_iff.1 hw
    exact word_form ho⟩
  have hB : (sysB xs && dicB (onceK ws ws.length)) = true := by rw [h1, hd]; rfl
  have h20 := (dicB_iff.1 hd).1
  have hpow : 20 ^ L.length ≤ 20 ^ 6 := Nat.pow_le_pow_right (by omega) (by omega)
  have h64 : (20 : Nat) ^ 6 = 64000000 := rfl
  have hw : waysOf xs (onceK ws ws.length) L = ((prodN (L.map (cntOf xs (onceK ws ws.length))) : Nat) : Int) := by
    unfold waysOf
    rw [if_pos ⟨hB, hLB⟩]
    have := waysF_small (cs := L.map (cntOf xs (onceK ws ws.length))) (n := 1) (cntOf_le h20 L) (by
      rw [List.length_map, Nat.one_mul]; omega)
    rw [Nat.one_mul] at this
    exact this
  have hle := prodN_le (cntOf_le (xs := xs) h20 L)
  rw [List.length_map] at hle
  have hp : 1 ≤ prodN (L.map (cntOf xs (onceK ws ws.length))) := prodN_pos (fun c hc => by
    obtain ⟨d, hdm, rfl⟩ := List.mem_map.1 hc
    obtain ⟨l, hlm, hwf⟩ := allW_mem h3 d hdm
    obtain ⟨i, hi, e⟩ := List.getElem_of_mem hlm
    have e2 : wdAt ws i = l := by
      have := wdAt_some hi
      rw [List.getElem?_eq_getElem hi] at this
      injection this with this
      rw [← this, e]
    have hin := onceK_has ws ws.length i hi
    rw [e2] at hin
    obtain ⟨q, hq, eq⟩ := List.getElem_of_mem hin
    have e3 : wdAt (onceK ws ws.length) q = l := by
      have := wdAt_some hq
      rw [List.getElem?_eq_getElem hq] at this
      injection this with this
      rw [← this, eq]
    unfold cntOf
    apply List.length_pos_of_mem (a := q)
    unfold readOf
    refine List.mem_filter.2 ⟨List.mem_range.2 hq, ?_⟩
    rw [decide_eq_true_iff, e3]
    exact hwf)
  rw [hw]
  omega
end Go.Proofs.Ytppjjbjjbmodbaa
