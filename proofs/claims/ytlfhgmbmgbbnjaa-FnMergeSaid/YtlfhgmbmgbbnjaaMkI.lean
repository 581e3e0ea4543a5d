/-
  MarksMake's closure: the open mark is pushed, if there is one. Conditions: the caller's cells are told apart.
-/
import Derived.Test.YtlfhgmbmgbbnjaaMkC
import Derived.Test.YtlfhgmbmgbbnjaaInvReg
namespace Go.Proofs.Ytlfhgmbmgbbnjaa
open Go.ChangeShapes Go.WideShapes Go.ChangeAt Go.RowKit
set_option maxRecDepth 100000
set_option linter.unusedSimpArgs false

theorem run_lhS {P : Program} {t : TypeId} {sz : Nat} (ht : P.underlying t = some (.slice (P.elem t))) (hs : ∀ w, (sizeOf (P.elem t)).run P w = .ok sz w) (a : Option Addr) (n c k h : Nat) (hk : k ≤ h) (hh : h ≤ c) (w : World) :
    (Instr.slice t (.slice a n c) (some (.int .i64 (k : Int))) (some (.int .i64 (h : Int))) none).run P w = .ok (.slice (fromB a k c sz) (h - k) (c - k)) w := by
  rw [run_slice_lh w t a n c ht .i64 .i64 (k : Int) (h : Int) (by omega) (by omega) (by omega), hs]
  simp [Result.andThen, sliced, fromB]
theorem WdsIn.sub {w : World} {B n c k h : Nat} {A : Option Addr} {ws : List Wd} (H : WdsIn w B A n c ws) (hk : k ≤ h) (hh : h ≤ n) : WdsIn w B (fromB A k c 1) (h - k) (c - k) ((ws.drop k).take (h - k)) :=
  (H.fromS (by omega)).upto (by omega)
theorem keepB2 {W W' : World} {B : Nat} {a : Addr} {u : Value} (hb : Below B W W') (hB : a.block < B) (h : W.cell? a = some u ∧ W.frozen? a = false) : W'.cell? a = some u ∧ W'.frozen? a = false := ⟨(hb.cell hB).trans h.1, (hb.frozen hB).trans h.2⟩
theorem keepRow {W W' : World} {row : Option Nat} {b j : Nat} {u : Value} (hg : W.grownBy W' row) (hr : row ≠ some b) (h : W.cell? ⟨b, j, none⟩ = some u ∧ W.frozen? ⟨b, j, none⟩ = false) : W'.cell? ⟨b, j, none⟩ = some u ∧ W'.frozen? ⟨b, j, none⟩ = false := by
  have hlt : b < W.heap.size := World.block_lt_of_cell? _ _ h.1
  have hk := hg.block b hlt (fun e => hr e.symm)
  exact ⟨by rw [← h.1]; exact World.cell?_of_block hk, by rw [← h.2]; unfold World.frozen?; rw [hk]⟩
/-- What the closure does. -/
def FinAns (w w' : World) (B bm : Nat) (v : Value) (D : List Mr) (op : Prop) (d : Mk) : Prop :=
  (¬ op ∧ Below w.heap.size w w') ∨ (op ∧ ∃ w1 v1 x, x.dat = d ∧ (0 < x.n → ∀ p, x.A = some p → w.heap.size ≤ p.block) ∧ w' = w1.setCell ⟨bm, 0, none⟩ v1 ∧ w.grownBy w1 v.ownBlock ∧ MrOwn w1 B v1 (D ++ [x]) ∧ (v1.ownBlock = v.ownBlock ∨ ∃ q, v1.ownBlock = some q ∧ w.heap.size ≤ q))
/-- What stands when the row has grown. -/
def FinRow (w w1 : World) (B : Nat) (v v1 : Value) (D : List Mr) (d : Mk) : Prop :=
  ∃ x, x.dat = d ∧ (0 < x.n → ∀ p, x.A = some p → w.heap.size ≤ p.block) ∧ w.grownBy w1 v.ownBlock ∧ MrOwn w1 B v1 (D ++ [x]) ∧ (v1.ownBlock = v.ownBlock ∨ ∃ q, v1.ownBlock = some q ∧ w.heap.size ≤ q)
theorem FinRow.mk {w W w5 : World} {B fA k m c4 : Nat} {A4 : Option Addr} {ws : List Wd} {v v5 : Value} {D : List Mr} (b4 : Below w.heap.size w W) (hO : MrOwn w B v D) (hI : WdsIn W W.heap.size A4 m c4 ws)
    (hn : 0 < m → ∀ p, A4 = some p → w.heap.size ≤ p.block ∧ p.block < W.heap.size)
    (ho : w5.ownsRow B 37 3 v5 (D.length + 1) (D.flatMap mkC ++ [.int .i64 (fA : Int), .int .i64 (k : Int), .slice A4 m c4]))
    (hg : W.grownBy w5 v.ownBlock) (hat : v5.ownBlock = v.ownBlock ∨ v5.ownBlock = some W.heap.size) : FinRow w w5 B v v5 D ⟨fA, k, ws⟩ := by
  have hg5 : w.grownBy w5 v.ownBlock := ⟨hg.os.trans b4.os, hg.tape.trans b4.tape, hg.output.trans b4.output, Nat.le_trans b4.size hg.size, fun q hq hne => (hg.block q (Nat.lt_of_lt_of_le hq b4.size) hne).trans (b4.block q hq)⟩
  have hP : MrOwn w5 B v5 (D ++ [(⟨fA, k, A4, m, c4, ws⟩ : Mr)]) := MrOwn.push (x := ⟨fA, k, A4, m, c4, ws⟩) (hO.keep b4) hI (fun hp p hpA => ⟨fun e => by
    have h1 := (hn hp p hpA).1
    have h2 := ownG_lt hO.1 e
    omega, (hn hp p hpA).2⟩) ho hg hat
  have hv : v5.ownBlock = v.ownBlock ∨ ∃ q, v5.ownBlock = some q ∧ w.heap.size ≤ q := hat.elim .inl (fun h => .inr ⟨_, h, b4.size⟩)
  have hx : 0 < (⟨fA, k, A4, m, c4, ws⟩ : Mr).n → ∀ p, (⟨fA, k, A4, m, c4, ws⟩ : Mr).A = some p → w.heap.size ≤ p.block := fun hp p hpA => (hn hp p hpA).1
  exact ⟨⟨fA, k, A4, m, c4, ws⟩, rfl, hx, hg5, hP, hv⟩
/-- The new mark's words. -/
def NewWd (w W : World) (m : Nat) (ws : List Wd) (A4 : Option Addr) (c4 : Nat) : Prop := WdsIn W W.heap.size A4 m c4 ws ∧ (0 < m → ∀ p, A4 = some p → w.heap.size ≤ p.block ∧ p.block < W.heap.size)
theorem NewWd.keep {w W W' : World} {m c4 : Nat} {ws : List Wd} {A4 : Option Addr} (h : NewWd w W m ws A4 c4) (hb : Below W.heap.size W W') : NewWd w W' m ws A4 c4 :=
  ⟨h.1.keep hb, fun hp p hpA => ⟨(h.2 hp p hpA).1, Nat.lt_of_lt_of_le (h.2 hp p hpA).2 hb.size⟩⟩
/-- How far the region has come, till the row grows. -/
structure FinMid (L : Nat → Prop) (w W0 W : World) (v : Value) (fA k m : Nat) (A2 : Option Addr) (c2 : Nat) (ws : List Wd) (v24 v25 v26 v27 v28 : Value) : Prop where
  b : Below W0.heap.size W0 W
  h0 : L 0 → v24 = v
  h1 : L 1 → v25 = .agg #[.int .i64 (fA : Int), .int .i64 (k : Int), .slice A2 m c2]
  h2 : L 2 → v26 = chV fA k A2 m c2
  h3 : L 3 → ∃ A4 c4, v27 = .agg #[.int .i64 (fA : Int), .int .i64 (k : Int), .slice A4 m c4] ∧ NewWd w W m ws A4 c4
  h4 : L 4 → ∃ q A4 c4, v28 = .slice (some ⟨q, 0, none⟩) 1 1 ∧ Row W W.heap.size (some ⟨q, 0, none⟩) 1 3 [.int .i64 (fA : Int), .int .i64 (k : Int), .slice A4 m c4] ∧ NewWd w W m ws A4 c4
  c2 : L 2 → L 1
  c3 : L 3 → L 2
  c4 : L 4 → L 3
def FinInv (w W0 : World) (B bm fA k m c2 : Nat) (A2 : Option Addr) (ws : List Wd) (v : Value) (D : List Mr) (op : Prop) (pre : Array Value) (L : Nat → Prop) (a : Act) (W : World) : Prop :=
  ∃ v24 v25 v26 v27 v28 v29 : Value, a = ⟨pre ++ #[v24, v25, v26, v27, v28, v29], []⟩ ∧
    ((¬ L 5 ∧ ¬ L 6 ∧ FinMid L w W0 W v fA k m A2 c2 ws v24 v25 v26 v27 v28) ∨ ((∀ j, j < 6 → L j) ∧ ¬ L 6 ∧ FinRow w W B v v29 D ⟨fA, k, ws⟩ ∧ W.cell? ⟨bm, 0, none⟩ = some v ∧ W.frozen? ⟨bm, 0, none⟩ = false) ∨ ((∀ j, j < 7 → L j) ∧ FinAns w W B bm v D op ⟨fA, k, ws⟩))
set_option maxHeartbeats 3200000 in
theorem finishC (bi bA bj bB bb bm i fA j fB B : Nat) (A : Option Addr) (n c : Nat) (b : List Wd) (v : Value) (D : List Mr) (w : World)
    (ci : w.cell? ⟨bi, 0, none⟩ = some (.int .i64 (i : Int))) (cA : w.cell? ⟨bA, 0, none⟩ = some (.int .i64 (fA : Int))) (cj : w.cell? ⟨bj, 0, none⟩ = some (.int .i64 (j : Int))) (cB : w.cell? ⟨bB, 0, none⟩ = some (.int .i64 (fB : Int)))
    (cb : w.cell? ⟨bb, 0, none⟩ = some (.slice A n c)) (cm : w.cell? ⟨bm, 0, none⟩ = some v ∧ w.frozen? ⟨bm, 0, none⟩ = false)
    (h : WdsIn w w.heap.size A n c b) (hO : MrOwn w B v D) (hne : v.ownBlock ≠ some bm) (hB : B ≤ w.heap.size) (h1 : fA ≤ i) (h2 : i ≤ 20) (h3 : fB ≤ j) (h4 : j ≤ n) (h5 : n ≤ 20) (hD : D.length ≤ 40) :
    Calls Try.prog 29 #[.pointer (some ⟨bi, 0, none⟩), .pointer (some ⟨bA, 0, none⟩), .pointer (some ⟨bj, 0, none⟩), .pointer (some ⟨bB, 0, none⟩), .pointer (some ⟨bb, 0, none⟩), .pointer (some ⟨bm, 0, none⟩)] w fun e w' =>
      e = .returned (.tuple #[]) ∧ FinAns w w' B bm v D (fA < i ∨ fB < j) ⟨fA, i - fA, (b.drop fB).take (j - fB)⟩ := by
  obtain ⟨i0, hi, hz0, hz1, hz2⟩ := info_parts infoMk
  have hnc := h.2.1
  have hbm : bm < w.heap.size := World.block_lt_of_cell? _ _ cm.1
  by_cases hop : fA < i ∨ fB < j
  · have hlh := fun W => run_lhS (P := Try.prog) elemW sizeW A n c fB j h3 (by omega) W
    have HS := Lib.hid (h.sub h3 h4)
    have HO := Lib.hid hO
    clear h hO
    go_enter Try.func29, Try.ntmps29
    go_upto_region 0 with fail
    go_cut [14] (fun c14 wx => w = wx ∧ Value.bool true = c14)
    case first =>
      by_cases e1 : fA < i
      · have e1' : (fA : Int) < (i : Int) := by omega
        go_wp2
        go_meet
        exact ⟨rfl, rfl⟩
      · have e1' : ¬ (fA : Int) < (i : Int) := by omega
        have e2' : (fB : Int) < (j : Int) := by omega
        go_wp2
        go_meet
        exact ⟨rfl, rfl⟩
    case rest =>
      obtain ⟨rfl, rfl⟩ := hcut
      have r1 : (0 : Int) ≤ (i : Int) - (fA : Int) := by omega
      have r2 : (i : Int) - (fA : Int) ≤ 20 := by omega
      have hk : (i : Int) - (fA : Int) = ((i - fA : Nat) : Int) := by omega
      have hm2 : j - fB ≤ maxLen := by unfold maxLen; omega
      have hm3 : j - fB ≤ 20 := by omega
      have hal : Below w.heap.size w (w.alloc (.cells #[.int .i64 0, .int .i64 0, .slice none 0 0] 37)) := (Below.refl _ _).alloc (Nat.le_refl _) _
      have ai := kcell hal ci; have aA := kcell hal cA; have aj := kcell hal cj; have aB := kcell hal cB; have ab := kcell hal cb
      go_upto_region 1 with fail
      go_cut [6] (fun s6 wx => ∃ W0 : World, W0 = wx ∧ s6 = .pointer (some ⟨w.heap.size, 0, none⟩) ∧ Below w.heap.size w W0 ∧ W0.cell? ⟨w.heap.size, 0, none⟩ = some (.int .i64 (fA : Int)) ∧ W0.cell? ⟨w.heap.size, 1, none⟩ = some (.int .i64 ((i - fA : Nat) : Int)) ∧ W0.cell? ⟨w.heap.size, 2, none⟩ = some (.slice (fromB A fB c 1) (j - fB) (c - fB)))
      case first =>
        go_region
        all_goals
          go_wp2_with fail
          go_meet
          exact ⟨_, rfl, rfl, ((Below.refl _ _).alloc (Nat.le_refl _) _).drew, newcell w _ _ 0 _ rfl, newcell w _ _ 1 _ rfl, newcell w _ _ 2 _ rfl⟩
      case rest =>
        obtain ⟨W0, rfl, rfl, hal2, x0, x1, x2⟩ := hcut
        have HBx := Lib.hid hal2
        have HB2 := Lib.hid hal2.drew
        have cm2 := keepB2 hal2.drew hbm cm
        replace x0 : W0.drew.cell? ⟨w.heap.size, 0, none⟩ = some (.int .i64 (fA : Int)) := x0
        replace x1 : W0.drew.cell? ⟨w.heap.size, 1, none⟩ = some (.int .i64 ((i - fA : Nat) : Int)) := x1
        replace x2 : W0.drew.cell? ⟨w.heap.size, 2, none⟩ = some (.slice (fromB A fB c 1) (j - fB) (c - fB)) := x2
        clear hk r1 r2
        have Hfin : Hid (∀ W, FinAns w W B bm v D (fA < i ∨ fB < j) ⟨fA, i - fA, (b.drop fB).take (j - fB)⟩ → FinAns w W B bm v D (fA < i ∨ fB < j) ⟨fA, i - fA, (b.drop fB).take (j - fB)⟩) := Lib.hid (fun _ h => h)
        obtain ⟨k, hk⟩ : ∃ k, k = i - fA := ⟨_, rfl⟩
        obtain ⟨m, hm⟩ : ∃ m, m = j - fB := ⟨_, rfl⟩
        obtain ⟨ws, hws⟩ : ∃ ws, ws = (b.drop fB).take (j - fB) := ⟨_, rfl⟩
        obtain ⟨c2, hc2⟩ : ∃ c2, c2 = c - fB := ⟨_, rfl⟩
        obtain ⟨A2, hA2⟩ : ∃ A2, A2 = fromB A fB c 1 := ⟨_, rfl⟩
        have HF0 : Hid (∀ W, FinAns w W B bm v D (fA < i ∨ fB < j) ⟨fA, k, ws⟩ → FinAns w W B bm v D (fA < i ∨ fB < j) ⟨fA, i - fA, (b.drop fB).take (j - fB)⟩) := Lib.hid (fun _ h => by rw [hk, hws] at h; exact h)
        rw [← hk] at x1
        rw [← hm, ← hc2, ← hA2] at x2 HS
        rw [← hm] at hm2 hm3
        rw [hm, ← hws, ← hm] at HS
        clear Hfin hk hm hws hc2 hA2
        have HCh : Hid (∀ W, Calls Try.prog 30 #[.agg #[.int .i64 (fA : Int), .int .i64 (k : Int), .slice A2 m c2]] W fun e w' => e = .returned (chV fA k A2 m c2) ∧ Below W.heap.size W w') := Lib.hid (fun W => changeOf fA k A2 m c2 W hm2)
        have HMl : Hid (∀ W, m = 0 → Calls Try.prog 78 #[.agg #[.int .i64 (fA : Int), .int .i64 (k : Int)]] W fun e w' => MkOf W w' fA k m ws e) := Lib.hid (fun W e => by subst e; rw [List.length_eq_zero_iff.1 HS.out.1]; exact leavingMark fA k W)
        have HMp : Hid (∀ W, Below w.heap.size w W → 1 ≤ m → Calls Try.prog 79 #[.agg #[.int .i64 (fA : Int), .slice A2 m c2]] W fun e w' => MkOf W w' fA 0 m ws e) := Lib.hid (fun W hW e => puttingMark fA A2 m c2 ws W e (by omega) (HS.out.keep hW))
        have HMr : Hid (∀ W, Below w.heap.size w W → 1 ≤ m → Calls Try.prog 81 #[.agg #[.int .i64 (fA : Int), .int .i64 (k : Int), .slice A2 m c2]] W fun e w' => MkOf W w' fA k m ws e) := Lib.hid (fun W hW e => replacingMark fA k A2 m c2 ws W e (by omega) (HS.out.keep hW))
        clear hlh HS ai aA aj aB ab hal hal2 ci cA cj cB cb HBx
        go_wp2_with fail
        have hcb : bm < W0.drew.heap.size := Nat.lt_of_lt_of_le hbm HB2.out.size
        refine wp_region_inv (by kernel_rfl) (FinInv w W0.drew B bm fA k m c2 A2 ws v D (fA < i ∨ fB < j) #[.pointer (some ⟨bi, 0, none⟩), .pointer (some ⟨bA, 0, none⟩), .pointer (some ⟨bj, 0, none⟩), .pointer (some ⟨bB, 0, none⟩), .pointer (some ⟨bb, 0, none⟩), .pointer (some ⟨bm, 0, none⟩), .pointer (some ⟨w.heap.size, 0, none⟩), u7, u8, u9, u10, u11, u12, u13, u14, u15, u16, u17, u18, u19, u20, u21, u22, u23]) (by kernel_rfl) ?_ ?_ ?_
        · exact ⟨u24, u25, u26, u27, u28, u29, rfl, .inl ⟨id, id, ⟨Below.refl _ _, nofun, nofun, nofun, nofun, nofun, nofun, nofun, nofun⟩⟩⟩
        · rintro L a W hall ⟨v24, v25, v26, v27, v28, v29, rfl, hI⟩
          rcases hI with ⟨hn, _⟩ | ⟨_, hn, _⟩ | ⟨_, hF⟩
          · exact absurd (hall 5 (by decide)) hn
          · exact absurd (hall 6 (by decide)) hn
          · have HF := Lib.hid hF
            clear hF HCh HMl HMp HMr HO HB2 cm2 x0 x1 x2 hall cm
            go_wp2
            go_returns
            exact ⟨rfl, HF0.out _ HF.out⟩
        · rintro L i7 a W hi7 hn ha ⟨v24, v25, v26, v27, v28, v29, rfl, hI⟩
          have hi' : i7 < 7 := hi7
          rcases hI with ⟨h5n, h6n, hM⟩ | ⟨hall, h6n, hF, kc, kf⟩ | ⟨hall, _⟩
          · have hc : i7 = 0 ∨ i7 = 1 ∨ i7 = 2 ∨ i7 = 3 ∨ i7 = 4 ∨ i7 = 5 ∨ i7 = 6 := by omega
            have k0 := kcell hM.b x0
            have k1 := kcell hM.b x1
            have k2 := kcell hM.b x2
            have km := keepB2 hM.b hcb cm2
            have km1 := km.1
            have hbW := HB2.out.trans (hM.b.mono HB2.out.size)
            clear hi7 hi'
            rcases hc with rfl | rfl | rfl | rfl | rfl | rfl | rfl
            · refine wpOp_step rfl (fun K hK => ?_)
              go_simp
              refine hK _ _ ?_
              exact ⟨_, _, _, _, _, _, rfl, .inl ⟨fun h => h5n (h.resolve_left (by decide)), fun h => h6n (h.resolve_left (by decide)), ⟨hM.b, fun _ => rfl, or_l (by decide) hM.h1, or_l (by decide) hM.h2, or_l (by decide) hM.h3, or_l (by decide) hM.h4, or_l (by decide) fun h => .inr (hM.c2 h), or_l (by decide) fun h => .inr (hM.c3 h), or_l (by decide) fun h => .inr (hM.c4 h)⟩⟩⟩
            · refine wpOp_step rfl (fun K hK => ?_)
              go_simp
              refine hK _ _ ?_
              exact ⟨_, _, _, _, _, _, rfl, .inl ⟨fun h => h5n (h.resolve_left (by decide)), fun h => h6n (h.resolve_left (by decide)), ⟨hM.b, or_l (by decide) hM.h0, fun _ => rfl, or_l (by decide) hM.h2, or_l (by decide) hM.h3, or_l (by decide) hM.h4, or_l (by decide) fun h => .inr (hM.c2 h), or_l (by decide) fun h => .inr (hM.c3 h), or_l (by decide) fun h => .inr (hM.c4 h)⟩⟩⟩
            · have l1 := ha 1 (by kernel_rfl)
              obtain rfl := hM.h1 l1
              refine wpOp_step rfl (fun K hK => ?_)
              go_simp
              refine (HCh.out _).mono ?_
              rintro e W3 ⟨rfl, hb3⟩
              refine hK _ _ ?_
              exact ⟨_, _, _, _, _, _, rfl, .inl ⟨fun h => h5n (h.resolve_left (by decide)), fun h => h6n (h.resolve_left (by decide)), ⟨below_next hM.b hb3, or_l (by decide) hM.h0, or_l (by decide) hM.h1, fun _ => rfl, or_l (by decide) fun h => absurd (hM.c3 h) hn, or_l (by decide) fun h => absurd (hM.c3 (hM.c4 h)) hn, fun _ => .inr l1, or_l (by decide) fun h => .inr (hM.c3 h), or_l (by decide) fun h => .inr (hM.c4 h)⟩⟩⟩
            · have l2 := ha 2 (by kernel_rfl)
              have hv26 := hM.h2 l2
              by_cases hm0 : m = 0
              · have hch : chV fA k A2 m c2 = .iface 75 (.agg #[.int .i64 (fA : Int), .int .i64 (k : Int)]) := if_pos hm0
                rw [hch] at hv26
                subst hv26
                clear x0 x1 x2 cm cm2 km km1 k0 k1 k2
                have hv26 := Lib.hid hch.symm
                clear hch
                refine wpOp_step rfl (fun K hK => ?_)
                go_simp
                go_invoke
                go_simp
                go_at_call 78
                refine (HMl.out _ hm0).mono ?_
                rintro e W4 ⟨A4, c4, rfl, hI4, hn4, hb4⟩
                refine hK _ _ ?_
                have hN : NewWd w W4 m ws A4 c4 := ⟨hI4, fun hp p hpA => ⟨Nat.le_trans hbW.size (hn4 hp p hpA).1, (hn4 hp p hpA).2⟩⟩
                exact ⟨_, _, _, _, _, _, rfl, .inl ⟨fun h => h5n (h.resolve_left (by decide)), fun h => h6n (h.resolve_left (by decide)), ⟨below_next hM.b hb4, or_l (by decide) hM.h0, or_l (by decide) hM.h1, or_l (by decide) (fun _ => hv26.out), fun _ => ⟨A4, c4, rfl, hN⟩, or_l (by decide) fun h => absurd (hM.c4 h) hn, or_l (by decide) fun h => .inr (hM.c2 h), fun _ => .inr l2, or_l (by decide) fun h => .inr (hM.c4 h)⟩⟩⟩
              · by_cases hk0 : k = 0
                · have hch : chV fA k A2 m c2 = .iface 77 (.agg #[.int .i64 (fA : Int), .slice A2 m c2]) := by unfold chV; rw [if_neg hm0, if_pos hk0]
                  rw [hch] at hv26
                  subst hv26
                  clear x0 x1 x2 cm cm2 km km1 k0 k1 k2
                  have hv26 := Lib.hid hch.symm
                  clear hch
                  have hq := HMp.out W hbW (by omega)
                  rw [← hk0] at hq
                  refine wpOp_step rfl (fun K hK => ?_)
                  go_simp
                  go_invoke
                  go_simp
                  go_at_call 79
                  refine (hq).mono ?_
                  rintro e W4 ⟨A4, c4, rfl, hI4, hn4, hb4⟩
                  refine hK _ _ ?_
                  have hN : NewWd w W4 m ws A4 c4 := ⟨hI4, fun hp p hpA => ⟨Nat.le_trans hbW.size (hn4 hp p hpA).1, (hn4 hp p hpA).2⟩⟩
                  exact ⟨_, _, _, _, _, _, rfl, .inl ⟨fun h => h5n (h.resolve_left (by decide)), fun h => h6n (h.resolve_left (by decide)), ⟨below_next hM.b hb4, or_l (by decide) hM.h0, or_l (by decide) hM.h1, or_l (by decide) (fun _ => hv26.out), fun _ => ⟨A4, c4, rfl, hN⟩, or_l (by decide) fun h => absurd (hM.c4 h) hn, or_l (by decide) fun h => .inr (hM.c2 h), fun _ => .inr l2, or_l (by decide) fun h => .inr (hM.c4 h)⟩⟩⟩
                · have hch : chV fA k A2 m c2 = .iface 79 (.agg #[.int .i64 (fA : Int), .int .i64 (k : Int), .slice A2 m c2]) := by unfold chV; rw [if_neg hm0, if_neg hk0]
                  rw [hch] at hv26
                  subst hv26
                  clear x0 x1 x2 cm cm2 km km1 k0 k1 k2
                  have hv26 := Lib.hid hch.symm
                  clear hch
                  refine wpOp_step rfl (fun K hK => ?_)
                  go_simp
                  go_invoke
                  go_simp
                  go_at_call 81
                  refine (HMr.out W hbW (by omega)).mono ?_
                  rintro e W4 ⟨A4, c4, rfl, hI4, hn4, hb4⟩
                  refine hK _ _ ?_
                  have hN : NewWd w W4 m ws A4 c4 := ⟨hI4, fun hp p hpA => ⟨Nat.le_trans hbW.size (hn4 hp p hpA).1, (hn4 hp p hpA).2⟩⟩
                  exact ⟨_, _, _, _, _, _, rfl, .inl ⟨fun h => h5n (h.resolve_left (by decide)), fun h => h6n (h.resolve_left (by decide)), ⟨below_next hM.b hb4, or_l (by decide) hM.h0, or_l (by decide) hM.h1, or_l (by decide) (fun _ => hv26.out), fun _ => ⟨A4, c4, rfl, hN⟩, or_l (by decide) fun h => absurd (hM.c4 h) hn, or_l (by decide) fun h => .inr (hM.c2 h), fun _ => .inr l2, or_l (by decide) fun h => .inr (hM.c4 h)⟩⟩⟩
            · have l3 := ha 3 (by kernel_rfl)
              obtain ⟨A4, c4, rfl, hN⟩ := hM.h3 l3
              refine wpOp_step rfl (fun K hK => ?_)
              go_simp
              refine hK _ _ ?_
              have hb4 : Below W.heap.size W (W.alloc (.cells #[.int .i64 (fA : Int), .int .i64 (k : Int), .slice A4 m c4] 37)) := (Below.refl _ _).alloc (Nat.le_refl _) _
              have hr4 := (rowNewMk W (.int .i64 (fA : Int)) (.int .i64 (k : Int)) (.slice A4 m c4) 37).more (show W.heap.size + 1 ≤ (W.alloc (.cells #[.int .i64 (fA : Int), .int .i64 (k : Int), .slice A4 m c4] 37)).heap.size by simp)
              exact ⟨_, _, _, _, _, _, rfl, .inl ⟨fun h => h5n (h.resolve_left (by decide)), fun h => h6n (h.resolve_left (by decide)), ⟨below_next hM.b hb4, or_l (by decide) hM.h0, or_l (by decide) hM.h1, or_l (by decide) hM.h2, or_l (by decide) (fun _ => ⟨A4, c4, rfl, hN.keep hb4⟩), fun _ => ⟨_, A4, c4, rfl, hr4, hN.keep hb4⟩, or_l (by decide) fun h => .inr (hM.c2 h), or_l (by decide) fun h => .inr (hM.c3 h), fun _ => .inr l3⟩⟩⟩
            · have l4 := ha 4 (by kernel_rfl)
              have l0 := ha 0 (by kernel_rfl)
              obtain ⟨q, A4, c4, rfl, hr4, hN⟩ := hM.h4 l4
              obtain rfl := hM.h0 l0
              refine wpOp_step rfl (fun K hK => ?_)
              refine step_append_any _ rfl (.tmp 24) (.tmp 28) 32 rfl B 37 i0 _ 3 40 Try.underlying32 hi hz0 hz1 hz2 rfl (by omega) v24 D.length (D.flatMap mkC) rfl (HO.out.keep hbW).1 W.heap.size (some ⟨q, 0, none⟩) 1 1 [.int .i64 (fA : Int), .int .i64 (k : Int), .slice A4 m c4] rfl hr4 (by simp [Value.oneCell']) (by unfold maxLen; omega) (by omega) (Nat.le_trans hB hbW.size) ?_
              intro v5 w5 hown5 hg5 hat5
              refine hK _ _ ?_
              have hF := FinRow.mk hbW HO.out hN.1 hN.2 hown5 hg5 hat5
              have km5 := keepRow hg5 hne km
              refine ⟨_, _, _, _, _, _, rfl, .inr (.inl ⟨fun j hj => ?_, fun h => h6n (h.resolve_left (by decide)), hF, km5⟩)⟩
              have hj' : j = 0 ∨ j = 1 ∨ j = 2 ∨ j = 3 ∨ j = 4 ∨ j = 5 := by omega
              rcases hj' with rfl | rfl | rfl | rfl | rfl | rfl
              · exact .inr l0
              · exact .inr (hM.c2 (hM.c3 (hM.c4 l4)))
              · exact .inr (hM.c3 (hM.c4 l4))
              · exact .inr (hM.c4 l4)
              · exact .inr l4
              · exact .inl rfl
            · exact absurd (ha 5 (by kernel_rfl)) h5n
          · have hi6 : i7 = 6 := by
              rcases Nat.lt_or_ge i7 6 with h | h
              · exact absurd (hall i7 h) hn
              · omega
            subst hi6
            clear hi7 hi'
            obtain ⟨x, hd, hx, hg, hO5, hv5⟩ := hF
            obtain ⟨A6, c6, rfl, hc6, hm6⟩ := ownG_form hO5.1
            have eL : (D ++ [x]).length = D.length + 1 := by simp
            rw [eL] at hO5 hv5
            clear eL
            refine wpOp_step rfl (fun K hK => ?_)
            go_simp
            refine hK _ _ ?_
            refine ⟨_, _, _, _, _, _, rfl, .inr (.inr ⟨fun j hj => ?_,   .inr ⟨hop, W, _, x, hd, hx, rfl, hg, hO5, hv5⟩⟩)⟩
            rcases Nat.lt_or_ge j 6 with h | h
            · exact .inr (hall j h)
            · exact .inl (by omega)
          · exact absurd (hall i7 hi') hn
  · have e1 : ¬ (fA : Int) < (i : Int) := by omega
    have e2 : ¬ (fB : Int) < (j : Int) := by omega
    clear h hO
    go_enter Try.func29, Try.ntmps29
    go_wp2
    go_returns
    exact ⟨rfl, .inl ⟨by first | exact hop | exact id, by go_grown⟩⟩
end Go.Proofs.Ytlfhgmbmgbbnjaa
