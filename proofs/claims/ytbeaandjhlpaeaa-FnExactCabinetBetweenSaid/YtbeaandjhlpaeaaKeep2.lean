/-
  cabinetTree.keep: the pads that are not wanted go, and the leaves that are empty then. Conditions: no more than a law lets by.
-/
import Derived.Test.YtbeaandjhlpaeaaKeep
import Derived.Test.YtbeaandjhlpaeaaTurn
namespace Go.Proofs.Ytbeaandjhlpaeaa
open Go.ChangeShapes Go.WideShapes Go.ChangeAt Go.RowKit Go.Shelf
set_option maxRecDepth 100000

/-- A leaf whose pads were looked through. -/
def Thin (p : Pad → Bool) (l l' : Leaf) : Prop := l'.g = l.g ∧ l'.ps = l.ps.filter p ∧ l'.v.ownBlock = l.v.ownBlock
/-- The first k leaves were looked through. -/
def ThinTo (p : Pad → Bool) (k : Nat) (ls ls' : List Leaf) : Prop := ls'.length = ls.length ∧ (∀ j, j < k → j < ls.length → Thin p (leafAt ls j) (leafAt ls' j)) ∧ ∀ j, k ≤ j → leafAt ls' j = leafAt ls j

theorem ThinTo.step {p : Pad → Bool} {k : Nat} {ls ls' : List Leaf} {l l2 : Leaf} (h : ThinTo p k ls ls') (hk : k < ls.length) (hl : ls'[k]? = some l) (hold : l = leafAt ls k) (h1 : l2.g = l.g) (h2 : l2.ps = l.ps.filter p) (h3 : l2.v.ownBlock = l.v.ownBlock) : ThinTo p (k + 1) ls (ls'.set k l2) := by
  have hset : ∀ j, leafAt (ls'.set k l2) j = if j = k then l2 else leafAt ls' j := fun j => by
    by_cases hj : j = k
    · subst hj
      rw [if_pos rfl]; unfold leafAt
      rw [List.getD, List.getElem?_set_self (by rw [h.1]; exact hk)]; rfl
    · rw [if_neg hj]; unfold leafAt
      rw [List.getD, List.getD, List.getElem?_set_ne (fun e => hj e.symm)]
  refine ⟨by rw [List.length_set]; exact h.1, fun j hj hjl => ?_, fun j hj => ?_⟩
  · rw [hset]
    by_cases hjk : j = k
    · subst hjk; rw [if_pos rfl, ← hold]; exact ⟨h1, h2, h3⟩
    · rw [if_neg hjk]; exact h.2.1 j (by omega) hjl
  · rw [hset, if_neg (by omega)]; exact h.2.2 j (by omega)

theorem ThinTo.ends {p : Pad → Bool} {k : Nat} {ls ls' : List Leaf} (h : ThinTo p k ls ls') (hk : k = ls.length) : (ls'.filter fun x => !noPads x).map (·.ps) = (ls.map (·.ps.filter p)).filter (fun ps => !(ps.length == 0)) := by
  have h1 : ls'.map (·.ps) = ls.map (·.ps.filter p) := by
    apply List.ext_getElem?
    intro j
    rw [List.getElem?_map, List.getElem?_map]
    rcases Nat.lt_or_ge j ls.length with hj | hj
    · rw [leafAt_some (ls := ls') (by rw [h.1]; exact hj), leafAt_some hj]
      have := (h.2.1 j (by omega) hj).2.1
      simp [this]
    · rw [List.getElem?_eq_none (by rw [h.1]; exact hj), List.getElem?_eq_none hj]; rfl
  rw [← h1, List.filter_map]; rfl

theorem TreeIn.thin {w w1 : World} {B t : Nat} {v v3 : Value} {ls : List Leaf} {f : Leaf → Bool} (h : TreeIn w B t v ls) (hg : w.grownBy w1 v.ownBlock) (hO : w1.ownsRow B 97 1 v3 (ls.filter f).length ((ls.filter f).flatMap ptrC)) {cs : Array Value} (hB1 : Blk w1 t 95 cs) (hcs : cs.size = 1 := by rfl) :
    TreeIn (w1.setCell ⟨t, 0, none⟩ v3) B t v3 (ls.filter f) := by
  have hL : LeavesIn w1 B v3 (ls.filter f) := by
    refine ⟨by rw [ptrC_map]; exact hO, fun l hl => ?_, ?_, ?_⟩
    · have hI := h.2.2.2.1 l (List.mem_filter.1 hl).1
      refine hI.congr (hg.block _ hI.2.1.lt (fun e => hI.2.1.ne_own h.2.2.1 (by decide) e.symm)) (fun b hb => hg.block b (own_lt hI.2.2.1 hb) (fun e => ?_))
      obtain ⟨cur, h1⟩ := own_obj hI.2.2.1 hb
      exact (show Blk w b 26 cur from h1).ne_own h.2.2.1 (by decide) e.symm
    · exact h.2.2.2.2.1.sublist ((List.filter_sublist).map _)
    · exact h.2.2.2.2.2.sublist ((List.filter_sublist).filterMap _)
  refine ⟨h.1, ?_, hL.root hB1 v3⟩
  have h2 := hB1.set 0 v3
  rcases cs with ⟨l⟩
  match l, hcs with
  | [x], _ => exact h2

theorem keep (g : Nat) (cb : Array Value) (p : Pad → Bool) (eg : ∀ args w, (callFunc g args).run Try.prog w = .ok (.enter g args) w) (B t : Nat) (v : Value) (ls : List Leaf) (w : World) (hB : B ≤ w.heap.size) (hn : ls.length ≤ 1048576) (hps : (leafPads ls).length ≤ 1048576)
    (hp : PredB g cb p B w) (h : TreeIn w B t v ls) :
    Calls Try.prog 66 #[.pointer (some ⟨t, 0, none⟩), .func (.func g) #[] cb] w fun e w' => e = .returned (.tuple #[]) ∧ Below B w w' ∧ ∃ v' ls', TreeIn w' B t v' ls' ∧ ls'.map (·.ps) = (ls.map (·.ps.filter p)).filter (fun ps => !(ps.length == 0)) := by
  obtain ⟨A, c, rfl, hnc, hcm⟩ := own_form h.2.2.1
  have hc0 : w.cell? ⟨t, 0, none⟩ = some (.slice A ls.length c) := h.2.1.cell 0
  have HT := Lib.hid h
  have htl := h.2.1.lt
  unfold maxLen at hcm
  have HP := Lib.hid hp; clear hp h
  have H3 : Hid (Blk (w.alloc (.cells #[.func (.func g) #[] cb] 25)) w.heap.size 25 #[.func (.func g) #[] cb]) := Lib.hid (Blk.new _ _ _)
  go_enter Try.func66, Try.ntmps66
  go_wp2
  go_loopw [13] (fun i wr => ∃ (k : Nat) (ls' : List Leaf), k ≤ ls.length ∧ i = .int .i64 k ∧ Hid (TreeIn wr B t (.slice A ls.length c) ls') ∧ Hid (ThinTo p k ls ls') ∧ Hid (Blk wr w.heap.size 25 #[.func (.func g) #[] cb]) ∧ Below B w wr) (fun i _ => ls.length - (intOf i).toNat)
  case atStart => exact ⟨0, ls, Nat.zero_le _, rfl, Lib.hid (HT.out.below ((Below.refl _ _).alloc (Nat.le_refl _) _)), Lib.hid ⟨rfl, fun j hj => absurd hj (by omega), fun _ _ => rfl⟩, H3, (Below.refl _ _).alloc hB _⟩
  case round =>
    obtain ⟨k, ls', hk, rfl, hT, hth, hb3, hb⟩ := hrel
    by_cases hlt : k < ls.length
    · have hlen : ls'.length = ls.length := hth.out.1
      have hlk := leafAt_some (ls := ls') (k := k) (by omega)
      obtain ⟨b, off, eA, hbB, c0, hgl, c1, f1, hBg, hPo, hgd⟩ := hT.out.2.2.at_ hlen (by omega : k < ls.length)
      obtain ⟨A2, c2, e2, hnc2, hcm2⟩ := own_form hPo
      have hold : leafAt ls' k = leafAt ls k := hth.out.2.2 k (Nat.le_refl _)
      have hml : (leafAt ls' k).ps.length ≤ 1048576 := by
        have h1 := leafPads_step (ls := ls) (k := k) hlt
        have h2 := leafPads_split (ls := ls) (k := k + 1)
        rw [h1, List.length_append, ← hold] at h2; omega
      have hlI := hT.out.2.2.2.1 _ (leafAt_mem (ls := ls') (k := k) (by omega))
      have hPo2 := hPo
      rw [e2] at c1 hPo2
      have eg77 : ∀ args w, (callFunc 77 args).run Try.prog w = .ok (.enter 77 args) w := enters_of Try.func77 (by kernel_rfl) rfl
      have hpn := keepNot g cb p eg B w.heap.size w wr (Value.slice A2 (leafAt ls' k).ps.length c2).ownBlock HP.out hb (Nat.le_trans hB hb.size) (fun q hq => own_base hPo2 hq) hb3.out (hb3.out.ne_own hPo2 (by decide))
      have HD := Lib.hid (delPads 77 #[.pointer (some ⟨w.heap.size, 0, none⟩)] (fun x => !p x) eg77 A2 (leafAt ls' k).ps.length c2 B (leafAt ls' k).ps wr rfl hml hgd hpn hPo2)
      have HPo := Lib.hid hPo2
      have HE := Lib.hid e2
      have HLI := Lib.hid hlI
      have HLK := Lib.hid hlk
      have HOld := Lib.hid hold
      have HGd := Lib.hid hgd
      subst eA
      clear hpn hPo hPo2 e2 hlI hlk hold eg77 hgd hml hlen
      generalize leafAt ls' k = l at *
      go_wp2_with fail
      refine HD.out.mono ?_
      rintro e w1 ⟨A3, c3, rfl, hO3, hv3, hg3⟩
      have hB1 : Blk w1 l.g 100 #[l.v] := (hg3.block _ HLI.out.2.1.lt (fun e => HLI.out.2.1.ne_own HPo.out (by decide) e.symm)).trans HLI.out.2.1
      have hff : (fun x => !(fun x => !p x) x) = p := by funext x; simp
      rw [hff] at hO3 hv3
      rw [← HE.out] at hg3 hv3
      have hT2 := TreeIn.turn hT.out HLK.out hg3 hO3 hv3 (fun x hx => HGd.out x (List.mem_filter.1 hx).1)
      have hb2 : Below B w (w1.setCell ⟨l.g, 0, none⟩ (.slice A3 (l.ps.filter p).length c3)) := (hb.grown hg3 (Nat.le_trans hB hb.size) (fun q hq => own_base HLI.out.2.2.1 hq)).setCell hBg _
      have HB3 : Hid (Blk (w1.setCell ⟨l.g, 0, none⟩ (.slice A3 (l.ps.filter p).length c3)) w.heap.size 25 #[.func (.func g) #[] cb]) := Lib.hid (by
        have h1 : Blk w1 w.heap.size 25 #[.func (.func g) #[] cb] := (hg3.block _ hb3.out.lt (fun e => hb3.out.ne_own HLI.out.2.2.1 (by decide) e.symm)).trans hb3.out
        exact h1.far (h1.ne_blk hB1 (by decide)) _)
      have HTh : Hid (ThinTo p (k + 1) ls (ls'.set k ⟨l.g, .slice A3 (l.ps.filter p).length c3, l.ps.filter p⟩)) := Lib.hid (hth.out.step hlt HLK.out HOld.out rfl rfl hv3)
      have HT2 := Lib.hid hT2
      have d1 : w1.cell? ⟨l.g, 0, none⟩ = some l.v := hB1.cell 0
      have d2 := hB1.free 0
      clear hT2 hff hO3 hv3 hg3 hB1 hT hth hb3 HD HPo HLI HLK
      rw [show (fun x => !(fun x => !p x) x) = p by funext x; simp]
      go_wp2
      go_roundw
      case rel => exact ⟨k + 1, _, by omega, by go_num, HT2, HTh, HB3, hb2⟩
      case measure => simp [intOf]; omega
    · have hkl : k = ls.length := by omega
      have hlen : ls'.length = ls.length := hth.out.1
      have hrd : ∀ l ∈ ls', LeafRd wr l := fun l hl => by
        obtain ⟨_, h2, h3, _⟩ := hT.out.2.2.2.1 l hl
        obtain ⟨A1, c1, e1, _⟩ := own_form h3
        exact ⟨A1, c1, by rw [← e1]; exact h2⟩
      have hro := hT.out.2.2.1
      rw [hlen, ptrC_map] at hro
      have HD := Lib.hid (delLeaf A ls.length c B ls' wr hlen hn hrd hro)
      have HR := Lib.hid hro
      have HB0 := Lib.hid hT.out.2.1
      have k0 : wr.cell? ⟨t, 0, none⟩ = some (.slice A ls.length c) := hT.out.2.1.cell 0
      have HL := Lib.hid hlen
      clear hrd hro hlen
      go_wp2_with fail
      refine HD.out.mono ?_
      rintro e w1 ⟨A3, c3, rfl, hO3, hv3, hg3⟩
      have hB1 : Blk w1 t 95 #[.slice A ls.length c] := (hg3.block _ HB0.out.lt (fun e => HB0.out.ne_own HR.out (by decide) e.symm)).trans HB0.out
      have HT2 := Lib.hid (TreeIn.thin hT.out hg3 hO3 hB1)
      have HM : Hid ((ls'.filter fun x => !noPads x).map (·.ps) = (ls.map (·.ps.filter p)).filter (fun ps => !(ps.length == 0))) := Lib.hid (hth.out.ends hkl)
      have b4 : Below B w (w1.setCell ⟨t, 0, none⟩ (.slice A3 (ls'.filter fun x => !noPads x).length c3)) := (hb.grown hg3 (Nat.le_trans hB hb.size) (fun q hq => own_base HR.out hq)).setCell hT.out.1 _
      have d1 : w1.cell? ⟨t, 0, none⟩ = some (.slice A ls.length c) := hB1.cell 0
      have d2 := hB1.free 0
      clear hB1 hO3 hv3 hg3
      go_wp2
      go_returns
      exact ⟨rfl, b4, _, _, HT2.out, HM.out⟩
end Go.Proofs.Ytbeaandjhlpaeaa
