/-
  heldPadS finds the marks, markPadSS marks a copy of drawers. Conditions: marks no greater than a law's.
-/
import Derived.Test.YtbeaandjhlpaeaaMarkPads
import Derived.BigQuiet
namespace Go.Proofs.Ytbeaandjhlpaeaa
open Go.ChangeShapes Go.WideShapes Go.ChangeAt Go.RowKit
set_option maxRecDepth 100000

theorem mkDig_size : ∀ (n : Nat) (s : ByteArray), (mkDig n s).size ≤ s.size + n := by
  intro n
  induction n using Nat.strongRecOn with
  | _ n ih =>
    intro s
    rcases Nat.eq_zero_or_pos n with rfl | h
    · rw [mkDig_zero]; omega
    · rw [mkDig_pos h]
      have h1 := ih (n / 10) (by omega) ((⟨#[UInt8.ofNat (48 + n % 10)]⟩ : ByteArray) ++ s)
      rw [ByteArray.size_append, show (⟨#[UInt8.ofNat (48 + n % 10)]⟩ : ByteArray).size = 1 from rfl] at h1
      omega
theorem markT_size (n : Nat) : (markT n).size ≤ n + 1 := by
  unfold markT
  have h := mkDig_size n ByteArray.empty
  rw [show ByteArray.empty.size = 0 from rfl] at h
  rw [ByteArray.size_append, show (⟨#[109]⟩ : ByteArray).size = 1 from rfl]; omega
theorem marked_good : ∀ m n, m + 2 * n ≤ 20000000 → ∀ p ∈ marked m n, p.good
  | _, 0, _, p, hp => by simp [marked] at hp
  | m, n + 1, h, p, hp => by
    simp only [marked, List.mem_cons] at hp
    rcases hp with rfl | hp
    · have := markT_size (m + 1)
      refine ⟨?_, by show (markT (m + 1)).size ≤ maxLen; unfold maxLen; omega⟩
      show (decide (IntKind.i64.min ≤ (m : Int)) && decide ((m : Int) ≤ IntKind.i64.max)) = true
      rw [show IntKind.i64.min = -9223372036854775808 from rfl, show IntKind.i64.max = 9223372036854775807 from rfl, decide_eq_true (by omega), decide_eq_true (by omega)]; rfl
    · exact marked_good (m + 2) n (by omega) p hp
theorem marked_at {m n k : Nat} (h : k < n) : padAt (marked m n) k = markPad (m + 2 * k) := by
  unfold padAt; rw [List.getD, marked_get m n k h]; rfl

theorem heldPadS (A : Option Addr) (n c m : Nat) (w : World) (hm0 : 0 < m) (hm : m ≤ 9000000) (hn : n ≤ 1048576) (h : PadsIn w w.heap.size A n c (marked m n)) :
    Calls Try.prog 37 #[.slice A n c, .int .i64 m] w fun e w' => e = .returned (.int .i64 ((m + 2 * n : Nat) : Int)) ∧ Below w.heap.size w w' := by
  have H := Lib.hid h; clear h
  go_enter Try.func37, Try.ntmps37
  go_wp2
  go_loopw [1, 5] (fun a i wr => ∃ (k : Nat), k ≤ n ∧ i = .int .i64 k ∧ a = .int .i64 ((m + 2 * k : Nat) : Int) ∧ Below w.heap.size w wr) (fun _ i _ => n - (intOf i).toNat)
  case atStart => exact ⟨0, Nat.zero_le _, rfl, rfl, Below.refl _ _⟩
  case round =>
    obtain ⟨k, hk, rfl, rfl, hb⟩ := hrel
    by_cases hlt : k < n
    · obtain ⟨b, off, eA, hbB, c0, c1, hg⟩ := (H.out.below hb).at_ hlt
      rw [marked_at hlt] at c0 c1
      subst eA
      have c0' : wr.cell? ⟨b, off + k * 2, none⟩ = some (.int .i64 ((m : Int) + 2 * k)) := c0.trans (by simp [markPad])
      have c1' : wr.cell? ⟨b, off + k * 2 + 1, none⟩ = some (.string (markT (m + 2 * k + 1))) := c1
      have cm : Hid (∀ W, Calls Try.prog 65 #[.int .i64 ((m : Int) + 2 * k + 1)] W fun e w' => e = .returned (.string (markT (m + 2 * k + 1))) ∧ Below W.heap.size W w') := Lib.hid (fun W => by
        have := markText (m + 2 * k + 1) W (by omega) (by omega)
        rwa [show ((m + 2 * k + 1 : Nat) : Int) = (m : Int) + 2 * k + 1 by omega] at this)
      clear c0 c1 hg
      generalize markT (m + 2 * k + 1) = txt at *
      have r1 := qcell c1'
      go_wp2_with fail
      refine region_qb (by kernel_rfl) (by kernel_rfl) ?_
      repeat (first | go_big_quiet_step ((go_at_call 65; exact quietB (cm.out _))) | quiet_step ((go_at_call 65; exact quietB (cm.out _))))
      refine wpQuiet_nil ?_
      intro w3 hb3
      have b3 := hb.trans (hb3.mono hb.size)
      clear r1 c0' c1' hb3
      go_wp2
      go_roundw
      case rel => exact ⟨k + 1, by omega, by go_num, by go_num, b3⟩
      case measure => simp [intOf]; omega
    · obtain rfl : k = n := by omega
      go_wp2
      go_ret
      exact ⟨rfl, hb⟩

/-- Worlds that differ only from block lo up to hi, among the blocks that were there. -/
structure Within (lo hi : Nat) (w w' : World) : Prop where
  os : w'.os = w.os
  tape : w'.tape = w.tape
  output : w'.output = w.output
  size : w.heap.size ≤ w'.heap.size
  block : ∀ b, b < w.heap.size → (b < lo ∨ hi ≤ b) → w'.heap[b]? = w.heap[b]?
theorem Within.refl (lo hi : Nat) (w : World) : Within lo hi w w := ⟨rfl, rfl, rfl, Nat.le_refl _, fun _ _ _ => rfl⟩
theorem Within.trans {lo hi : Nat} {a b c : World} (h : Within lo hi a b) (k : Within lo hi b c) : Within lo hi a c :=
  ⟨k.os.trans h.os, k.tape.trans h.tape, k.output.trans h.output, Nat.le_trans h.size k.size, fun i hi' hr => (k.block i (Nat.lt_of_lt_of_le hi' h.size) hr).trans (h.block i hi' hr)⟩
theorem Within.of_only {lo hi g : Nat} {w w' : World} (h : w.grownBy w' (some g)) (h1 : lo ≤ g) (h2 : g < hi) : Within lo hi w w' :=
  ⟨h.os, h.tape, h.output, h.size, fun b hb hr => h.block b hb (fun e => by injection e with e; omega)⟩
theorem Within.of_below {lo hi : Nat} {w w' : World} (h : Below w.heap.size w w') : Within lo hi w w' := ⟨h.os, h.tape, h.output, h.size, fun b hb _ => h.block b hb⟩
theorem Within.below {lo hi B : Nat} {a w w' : World} (h : Within lo hi w w') (hb : Below B a w) (h1 : B ≤ lo) (h2 : B ≤ w.heap.size) : Below B a w' :=
  hb.trans ⟨h.os, h.tape, h.output, h.size, fun b hb' => h.block b (by omega) (.inl (by omega))⟩
theorem own_within {w w' : World} {B n sz lo hi : Nat} {e : TypeId} {v : Value} {xs : List Value} (h : w.ownsRow B e sz v n xs) (hw : Within lo hi w w') (hr : ∀ b, v.ownBlock = some b → b < lo ∨ hi ≤ b) : w'.ownsRow B e sz v n xs :=
  own_congr h fun b hb => hw.block b (own_lt h hb) (hr b hb)

theorem DrOwn.own {w : World} {B : Nat} {d : Drawer} (h : DrOwn w B d) (hn : d.n ≤ maxLen) : PadsOwn w B (.slice d.A d.n d.c) d.ps := by
  obtain ⟨g, h1, h2, h3, h4, h5, h6⟩ := h
  refine ⟨by rw [flat_len padC_len], .inr ⟨g, d.c, _, by rw [h2, h4], h1, h5, by rw [h4, h3]; exact Nat.le_refl _, by rw [h3]; exact hn, by rw [List.size_toArray, flat_len padC_len, h4, h3], ?_⟩⟩
  rw [List.take_of_length_le (by simp [flat_len padC_len])]

theorem nodup_ne {l : List Nat} (h : l.Nodup) {i j : Nat} {x y : Nat} (hi : l[i]? = some x) (hj : l[j]? = some y) (hij : i < j) : x ≠ y := by
  obtain ⟨hi1, rfl⟩ := List.getElem?_eq_some_iff.1 hi
  obtain ⟨hj1, rfl⟩ := List.getElem?_eq_some_iff.1 hj
  exact List.pairwise_iff_getElem.1 h i j hi1 hj1 hij

theorem CopiedTo.below {w w' : World} {g : Nat} {ds ds' : List Drawer} (h : CopiedTo w g ds ds') (hb : Below w.heap.size w w') : CopiedTo w' g ds ds' :=
  ⟨h.1.below hb, h.2.1, fun d hd => (h.2.2.1 d hd).below hb, h.2.2.2⟩
theorem Copy.keep {w w' : World} {n : Nat} {A : Option Addr} {ds ds' : List Drawer} (h : Copy w n A ds ds') (hb : Below w.heap.size w w') : Copy w' n A ds ds' := by
  obtain ⟨h1, h2, h3, g, h4, h5⟩ := h
  exact ⟨h1.keep hb, h2, h3, g, h4, h5.below hb⟩
theorem Copy.under {w : World} {n : Nat} {A : Option Addr} {ds ds' : List Drawer} (h : Copy w n A ds ds') : ∀ d ∈ ds', drBlock d < w.heap.size := by
  obtain ⟨_, _, _, g, _, h5⟩ := h
  exact fun d hd => (drBlock_of (h5.2.2.1 d hd)).2.1
theorem own_only {w w' : World} {row : Option Nat} {B n sz : Nat} {e : TypeId} {v : Value} {xs : List Value} (h : w.ownsRow B e sz v n xs) (hg : w.grownBy w' row) (hr : ∀ b, v.ownBlock = some b → row ≠ some b) : w'.ownsRow B e sz v n xs :=
  own_congr h fun b hb => hg.block b (own_lt h hb) (fun e => hr b hb e.symm)

theorem PadsOwn.keep {w w' : World} {B : Nat} {v : Value} {ps : List Pad} (h : PadsOwn w B v ps) (hb : Below w.heap.size w w') : PadsOwn w' B v ps := own_congr h fun b hv => hb.block b (own_lt h hv)
theorem PadsOwn.within {w w' : World} {B lo hi : Nat} {v : Value} {ps : List Pad} (h : PadsOwn w B v ps) (hw : Within lo hi w w') (hr : ∀ b, v.ownBlock = some b → b < lo ∨ hi ≤ b) : PadsOwn w' B v ps := own_within h hw hr
theorem PadsOwn.only {w w' : World} {row : Option Nat} {B : Nat} {v : Value} {ps : List Pad} (h : PadsOwn w B v ps) (hg : w.grownBy w' row) (hr : ∀ b, v.ownBlock = some b → row ≠ some b) : PadsOwn w' B v ps := own_only h hg hr

theorem markPadSS (g n hi : Nat) (ds ds' : List Drawer) (w : World) (hn : n ≤ 1048576) (hsz : cabSz ds' ≤ 1048576) (h : Copy w n (some ⟨g, 0, none⟩) ds ds') (hhi : ∀ d ∈ ds', drBlock d < hi) :
    Calls Try.prog 35 #[.slice (some ⟨g, 0, none⟩) n n, .int .i64 1] w fun e w' => (∃ m : Nat, e = .returned (.int .i64 (m : Int))) ∧ Within (g + 1) hi w w' := by
  obtain ⟨hD, _, _, g', e, hC⟩ := h
  injection e with e; injection e with e; subst e
  have HC := Lib.hid hC; clear hC
  have HD := Lib.hid hD; clear hD
  have HI := Lib.hid hhi; clear hhi
  go_enter Try.func35, Try.ntmps35
  go_wp2
  go_loopw [1, 5] (fun a i wr => ∃ (k : Nat), k ≤ n ∧ i = .int .i64 k ∧ a = .int .i64 (1 + 2 * ((allPads (ds'.take k)).length : Int)) ∧ Hid (∀ j, k ≤ j → j < n → wr.heap[drBlock (drAt ds' j)]? = w.heap[drBlock (drAt ds' j)]?) ∧ Hid (Within (g + 1) hi w wr)) (fun _ i _ => n - (intOf i).toNat)
  case atStart => exact ⟨0, Nat.zero_le _, rfl, by simp [allPads], Lib.hid (fun _ _ _ => rfl), Lib.hid (Within.refl _ _ _)⟩
  case round =>
    obtain ⟨k, hk, rfl, rfl, hK, hW⟩ := hrel
    have hlk : (allPads (ds'.take k)).length ≤ 1048576 := by
      have h1 := allPads_len (ds'.take k)
      have h2 := cabSz_append (ds'.take k) (ds'.drop k)
      rw [List.take_append_drop] at h2; omega
    by_cases hlt : k < n
    · obtain ⟨b, off, eA, hbB, c0, hP⟩ := HD.out.at_ hlt
      injection eA with eA; injection eA with e1 e2; subst e1 e2
      have hlen := HD.out.1
      have hkl : k < ds'.length := by omega
      obtain ⟨o1, o2, o3, o4⟩ := drBlock_of (HC.out.2.2.1 _ (drAt_mem hkl))
      have hown := (HC.out.2.2.1 _ (drAt_mem hkl)).own (by have := hP.2.2.1; have := hP.2.1; omega)
      have hown2 := own_congr (w' := wr) hown (fun b hb => by
        rw [o3] at hb; injection hb with hb; simp at hb; subst hb
        exact hK.out k (Nat.le_refl _) hlt)
      rw [hP.1] at hown2
      have hgl := HC.out.1.lt
      rw [Nat.zero_add] at c0
      have c0' : wr.cell? ⟨g, k, none⟩ = some (.slice (drAt ds' k).A (drAt ds' k).n (drAt ds' k).c) := by
        rw [← c0]; exact World.cell?_of_block (hW.out.block g hgl (.inl (by omega)))
      have hs := allPads_step hkl
      have hl2 : (allPads (ds'.take (k + 1))).length = (allPads (ds'.take k)).length + (drAt ds' k).n := by rw [hs, List.length_append, hP.1]
      have hlk2 : (allPads (ds'.take (k + 1))).length ≤ 1048576 := by
        have h1 := allPads_len (ds'.take (k + 1))
        have h2 := cabSz_append (ds'.take (k + 1)) (ds'.drop (k + 1))
        rw [List.take_append_drop] at h2; omega
      have hMM := (markPadS _ _ _ (1 + 2 * (allPads (ds'.take k)).length) (g + 1) _ wr (by omega) (by omega) (by omega) hP.1 (by unfold PadsOwn; rw [hP.1]; exact hown2))
      rw [show ((1 + 2 * (allPads (ds'.take k)).length : Nat) : Int) = 1 + 2 * ((allPads (ds'.take k)).length : Int) by omega] at hMM
      have HM := Lib.hid hMM
      have HO := Lib.hid (And.intro o1 (And.intro (HI.out _ (drAt_mem hkl)) o3))
      have HN : Hid (∀ j, k < j → j < n → drBlock (drAt ds' j) ≠ drBlock (drAt ds' k)) := Lib.hid (fun j hj hjn e => nodup_ne HC.out.2.2.2 (i := k) (j := j) (x := drBlock (drAt ds' k)) (y := drBlock (drAt ds' j)) (by rw [List.getElem?_map, drAt_some hkl]; rfl) (by rw [List.getElem?_map, drAt_some (by omega)]; rfl) hj e.symm)
      have HL := Lib.hid hl2
      have HH : Hid (∀ j, j < n → drBlock (drAt ds' j) < w.heap.size) := Lib.hid (fun j hj => (drBlock_of (HC.out.2.2.1 _ (drAt_mem (by omega)))).2.1)
      clear hMM hown hown2 o1 o2 o3 o4 hs hP c0 hl2
      generalize drAt ds' k = d at *
      generalize (allPads (ds'.take k)).length = q at *
      generalize hq' : (allPads (ds'.take (k + 1))).length = q' at *
      have HQ := Lib.hid hq'; clear hq'
      go_wp2_with fail
      refine HM.out.mono ?_
      rintro e w1 ⟨rfl, hg1, _⟩
      have hob : (Value.slice d.A d.n d.c).ownBlock = some (drBlock d) := by rw [HO.out.2.2]; rfl
      rw [hob] at hg1
      have HW1 := Lib.hid (hW.out.trans (Within.of_only hg1 HO.out.1 HO.out.2.1))
      have HK1 : Hid (∀ j, k + 1 ≤ j → j < n → w1.heap[drBlock (drAt ds' j)]? = w.heap[drBlock (drAt ds' j)]?) := Lib.hid (fun j hj hjn => by
        rw [← hK.out j (by omega) hjn]
        refine hg1.block _ (Nat.lt_of_lt_of_le (HH.out j hjn) hW.out.size) (fun e => ?_)
        injection e with e
        exact HN.out j (by omega) hjn e)
      have hq := HL.out
      clear hob hg1 HM
      go_wp2
      go_roundw
      case rel => exact ⟨k + 1, by omega, by go_num, by rw [HQ.out, hq]; go_num, HK1, HW1⟩
      case measure => simp [intOf]; omega
    · obtain rfl : k = n := by omega
      go_wp2
      go_ret
      exact ⟨⟨1 + 2 * (allPads (ds'.take k)).length, rfl⟩, hW.out⟩

end Go.Proofs.Ytbeaandjhlpaeaa
