/-
  MergeThree of both. Conditions: the lists lie in memory; no text is absurdly long.
-/
import Derived.Test.YtlfhgmbmgbbnjaaMkBoI
import Derived.Test.YtlfhgmbmgbbnjaaMkDo
import Derived.Test.YtlfhgmbmgbbnjaaMkI2
namespace Go.Proofs.Ytlfhgmbmgbbnjaa
open Go.ChangeShapes Go.WideShapes Go.ChangeAt Go.RowKit
set_option maxRecDepth 100000
set_option linter.unusedSimpArgs false
set_option linter.unusedVariables false

theorem curOf_put {i : Nat} {cur : Option Mk} {S : List Wd} (h : ∀ m, cur = some m → ∀ l ∈ m.put, l ∈ S) : ∀ l ∈ (curOf i cur).put, l ∈ S := by
  cases cur with
  | none => intro l hl; cases hl
  | some m => exact h m rfl
/-- The words that are put in come from the second text. -/
theorem mkGo_mem {S : List Wd} : ∀ (a b : List Wd) (i : Nat) (cur : Option Mk), (∀ l ∈ b, l ∈ S) → (∀ m, cur = some m → ∀ l ∈ m.put, l ∈ S) → ∀ m ∈ mkGo a b i cur, ∀ l ∈ m.put, l ∈ S := by
  intro a b i cur
  induction a, b, i, cur using mkGo.induct with
  | case1 i cur =>
    intro hb hc m hm
    rw [mkGo_done] at hm
    cases cur with
    | none => cases hm
    | some m' =>
      have e : m = m' := by simpa using hm
      rw [e]; exact hc m' rfl
  | case2 x a i cur ih =>
    intro hb hc m hm
    rw [mkGo_cut (fun y r h => by cases h) (dst_end x a)] at hm
    exact ih hb (fun m' e => by injection e with e; subst e; exact curOf_put hc) m hm
  | case3 y b i cur ih =>
    intro hb hc m hm
    rw [mkGo_put (fun x r h => by cases h)] at hm
    refine ih (fun l hl => hb l (by simp [hl])) (fun m' e => ?_) m hm
    injection e with e; subst e
    intro l hl
    rcases List.mem_append.1 hl with h | h
    · exact curOf_put hc l h
    · rw [List.mem_singleton] at h; subst h; exact hb _ (by simp)
  | case4 x a b i cur ih =>
    intro hb hc m hm
    rw [mkGo_same] at hm
    rcases List.mem_append.1 hm with hm | hm
    · cases cur with
      | none => cases hm
      | some m' =>
        have e : m = m' := by simpa using hm
        rw [e]; exact hc m' rfl
    · exact ih (fun l hl => hb l (by simp [hl])) (fun m' e => by cases e) m hm
  | case5 x a y b i cur hne hd ih =>
    intro hb hc m hm
    rw [mkGo_cut (fun y' r h => by injection h with h _; rw [← h]; exact hne) hd] at hm
    exact ih hb (fun m' e => by injection e with e; subst e; exact curOf_put hc) m hm
  | case6 x a y b i cur hne hd ih =>
    intro hb hc m hm
    rw [mkGo_put (fun x' r h => by injection h with h1 h2; rw [← h1, ← h2]; exact ⟨hne, hd⟩)] at hm
    refine ih (fun l hl => hb l (by simp [hl])) (fun m' e => ?_) m hm
    injection e with e; subst e
    intro l hl
    rcases List.mem_append.1 hl with h | h
    · exact curOf_put hc l h
    · rw [List.mem_singleton] at h; subst h; exact hb _ (by simp)
theorem okMs_make {w : World} {B n c : Nat} {A : Option Addr} {a b : List Wd} {xs : List Mr} (ha : a.length ≤ 1000) (hb : b.length ≤ 1000) (hW : ∀ l ∈ b, l.length ≤ maxLen) (h : MrsIn w B A n c xs) (e : xs.map Mr.dat = mkAll a b) : OkMs xs := by
  intro x hx
  have hm : x.dat ∈ mkAll a b := by rw [← e]; exact List.mem_map_of_mem hx
  have h1 := mkGo_bd (N := a.length) (M := b.length) a b 0 none (by omega) (fun m e => by cases e) (Nat.le_refl _) x.dat hm
  have h2 := mkGo_mem (S := b) a b 0 none (fun l h => h) (fun m e => by cases e) x.dat hm
  have h3 := (h.2.2.2.2 x hx).1
  simp only [Mr.dat] at h1 h2
  exact ⟨⟨by omega, by omega, by omega⟩, fun l hl => hW l (h2 l hl)⟩
theorem okMs_nil : OkMs [] := fun x hx => by cases hx
/-- The answer of a merge. -/
def MgAns (w' : World) (B : Nat) (o : Option (List Wd)) (e : Ending) : Prop :=
  ∃ A c, e = .returned (.tuple #[.slice A (o.getD []).length c, .bool o.isSome]) ∧ WdOwn w' B (.slice A (o.getD []).length c) (o.getD [])
theorem WdOwn.nil0 (w : World) (B : Nat) : WdOwn w B (.slice none 0 0) [] := World.ownsRow_nil _ _ _ _
theorem MgAns.no {w' : World} {B : Nat} {o : Option (List Wd)} {A : Option Addr} {c : Nat} (ho : o = none) (h : WdOwn w' B (.slice A 0 c) []) : MgAns w' B o (.returned (.tuple #[.slice A 0 c, .bool false])) := by
  subst ho; exact ⟨A, c, rfl, h⟩
theorem MgAns.yes {w' : World} {B n : Nat} {o : Option (List Wd)} {A : Option Addr} {c : Nat} {ws : List Wd} (ho : o = some ws) (hn : n = ws.length) (h : WdOwn w' B (.slice A n c) ws) : MgAns w' B o (.returned (.tuple #[.slice A n c, .bool true])) := by
  subst ho hn; exact ⟨A, c, rfl, h⟩
theorem merge_no {base a b : List Wd} (h : makeO base a = none ∨ makeO base b = none) : mergeThree base a b = none := by
  unfold mergeThree
  rw [if_neg]
  intro e
  rw [Bool.and_eq_true, Bool.and_eq_true] at e
  rcases h with h | h
  · unfold makeO at h
    rw [if_pos (by rw [e.1, e.2.1]; rfl)] at h; cases h
  · unfold makeO at h
    rw [if_pos (by rw [e.1, e.2.2]; rfl)] at h; cases h
theorem merge_yes {base a b : List Wd} {X Y : List Mk} (h : makeO base a = some X) (h2 : makeO base b = some Y) : mergeThree base a b = (bothP base X Y).map (fun m => doK base m 0) ∧ X = mkAll base a ∧ Y = mkAll base b ∧ base.length ≤ 20 ∧ a.length ≤ 20 ∧ b.length ≤ 20 := by
  unfold makeO at h h2
  split at h
  · rename_i e1
    split at h2
    · rename_i e2
      injection h with h; injection h2 with h2
      rw [Bool.and_eq_true] at e1 e2
      refine ⟨?_, h.symm, h2.symm, (spB_iff.1 e1.1).2, (spB_iff.1 e1.2).2, (spB_iff.1 e2.2).2⟩
      unfold mergeThree
      rw [if_pos (by rw [e1.1, e1.2, e2.2]; rfl), h, h2]
    · cases h2
  · cases h
theorem both_valid {ws : List Wd} {a b M : List Mk} (h : bothP ws a b = some M) : marksB ws M = true := by
  unfold bothP at h
  split at h
  · split at h
    · rename_i e; injection h with h; rw [← h]; exact e
    · cases h
  · cases h
theorem doK_len (ws : List Wd) : ∀ (ms : List Mk) (i : Nat), (∀ m ∈ ms, m.put.length ≤ 20) → (doK ws ms i).length ≤ ms.length * (ws.length + 20) + ws.length := by
  intro ms
  induction ms with
  | nil => intro i _; rw [doK, List.length_drop]; simp
  | cons m r ih =>
    intro i h
    have h1 := ih (m.at_ + m.cut) (fun x hx => h x (by simp [hx]))
    have h2 := h m (by simp)
    rw [doK, List.length_append, List.length_append, List.length_take, List.length_drop, List.length_cons, Nat.succ_mul]
    omega
theorem merge_len (base a b : List Wd) : ((mergeThree base a b).getD []).length ≤ 1048576 := by
  unfold mergeThree
  split
  · cases h : bothP base (mkAll base a) (mkAll base b) with
    | none => simp
    | some M =>
      have hv := marksB_iff.1 (both_valid h)
      have h1 := doK_len base M 0 (fun m hm => (spB_iff.1 (mkB_iff.1 ((gapB_ord hv.2.2.1).1 m hm)).2.1).2)
      have h2 := (spB_iff.1 hv.1).2
      have h3 : M.length * (base.length + 20) ≤ 20 * 40 := Nat.mul_le_mul hv.2.1 (by omega)
      simp only [Option.map_some, Option.getD_some]
      omega
  · simp
/-- What making marks answers, in one form. -/
def Mk2 (w' : World) (o : Option (List Mk)) (e : Ending) : Prop := ∃ A n c xs p, e = .returned (.tuple #[.slice A n c, .bool p]) ∧ MrsIn w' w'.heap.size A n c xs ∧ OkMs xs ∧ (o = if p = true then some (xs.map Mr.dat) else none)
theorem MkAns.to2 {w' : World} {o : Option (List Mk)} {e : Ending} (h : MkAns w' o e) (hk : ∀ xs A n c, MrsIn w' w'.heap.size A n c xs → o = some (xs.map Mr.dat) → OkMs xs) : Mk2 w' o e := by
  rcases h with ⟨rfl, A, c, rfl, hI⟩ | ⟨A, c, xs, rfl, rfl, hI⟩
  · exact ⟨A, 0, c, [], false, rfl, hI, okMs_nil, rfl⟩
  · exact ⟨A, _, c, xs, true, rfl, hI, hk xs _ _ _ hI rfl, rfl⟩
set_option maxHeartbeats 3200000 in
theorem implMergeThree (A0 : Option Addr) (n0 c0 : Nat) (base : List Wd) (A : Option Addr) (n c : Nat) (a : List Wd) (A' : Option Addr) (n' c' : Nat) (b : List Wd) (w : World) (hW0 : ∀ l ∈ base, l.length ≤ maxLen) (hW : ∀ l ∈ a, l.length ≤ maxLen) (hW' : ∀ l ∈ b, l.length ≤ maxLen)
    (h0 : WdsIn w w.heap.size A0 n0 c0 base) (h : WdsIn w w.heap.size A n c a) (h' : WdsIn w w.heap.size A' n' c' b) :
    Calls Try.prog 8 #[.slice A0 n0 c0, .slice A n c, .slice A' n' c'] w fun e w' => MgAns w' w.heap.size (mergeThree base a b) e ∧ Below w.heap.size w w' := by
  have HM1 : Hid (∀ W, Below w.heap.size w W → Calls Try.prog 14 #[.slice A0 n0 c0, .slice A n c] W fun e w' => MkAns w' (makeO base a) e ∧ Below W.heap.size W w') := Lib.hid (fun W hb => implMarksMake A0 n0 c0 base A n c a W hW0 hW (h0.keep hb) (h.keep hb))
  have HM2 : Hid (∀ W, Below w.heap.size w W → Calls Try.prog 14 #[.slice A0 n0 c0, .slice A' n' c'] W fun e w' => MkAns w' (makeO base b) e ∧ Below W.heap.size W w') := Lib.hid (fun W hb => implMarksMake A0 n0 c0 base A' n' c' b W hW0 hW' (h0.keep hb) (h'.keep hb))
  have HBo : Hid (∀ W Ax nx cx xs Ay ny cy ys, Below w.heap.size w W → OkMs xs → OkMs ys → MrsIn W W.heap.size Ax nx cx xs → MrsIn W W.heap.size Ay ny cy ys → Calls Try.prog 19 #[.slice A0 n0 c0, .slice Ax nx cx, .slice Ay ny cy] W fun e w' => MkAns w' (bothP base (xs.map Mr.dat) (ys.map Mr.dat)) e ∧ Below W.heap.size W w') := Lib.hid (fun W Ax nx cx xs Ay ny cy ys hb hX hY hx hy => implMarksBoth A0 n0 c0 base Ax nx cx xs Ay ny cy ys W hW0 hX hY (h0.keep hb) hx hy)
  have HDo : Hid (∀ W Ax nx cx D, Below w.heap.size w W → OkMs D → marksB base (D.map Mr.dat) = true → MrsIn W W.heap.size Ax nx cx D → Calls Try.prog 20 #[.slice A0 n0 c0, .slice Ax nx cx] W fun e w' => WdsAnsT w' W.heap.size (doK base (D.map Mr.dat) 0) e ∧ Below W.heap.size W w') := Lib.hid (fun W Ax nx cx D hb hD hv hI => implMarksDo A0 n0 c0 base Ax nx cx D W hW0 hD hv (h0.keep hb) hI)
  have HOd : Hid (∀ (W : World) (B : Nat) (A : Option Addr) (n c : Nat) (xs ys D : List Mr), OkMs xs → OkMs ys → (∀ x ∈ xs, x.put.length = x.n) → (∀ x ∈ ys, x.put.length = x.n) → MrsIn W B A n c D → bothP base (xs.map Mr.dat) (ys.map Mr.dat) = some (D.map Mr.dat) → OkMs D) := Lib.hid (fun W B A n c xs ys D hX hY hx hy hI hE d hd => by
    have hmem : d.dat ∈ mergeP (xs.map Mr.dat) (ys.map Mr.dat) := by
      unfold bothP at hE
      split at hE
      · split at hE
        · injection hE with hE; rw [hE]; exact List.mem_map_of_mem hd
        · cases hE
      · cases hE
    have hn := (hI.2.2.2.2 d hd).1
    have key : ∀ x : Mr, x.dat = d.dat → (SmM x ∧ ∀ l ∈ x.put, l.length ≤ maxLen) → x.put.length = x.n → SmM d ∧ ∀ l ∈ d.put, l.length ≤ maxLen := fun x e h1 h2 => by
      obtain ⟨e1, e2, e3⟩ := mr_eq.1 e
      rw [e3] at h1 h2
      have := h1.1.2.2
      exact ⟨⟨by rw [← e1]; exact h1.1.1, by rw [← e2]; exact h1.1.2.1, by omega⟩, h1.2⟩
    rcases (mergeP_mem _ _ _).1 hmem with h1 | h1
    · obtain ⟨x, hx1, e⟩ := List.mem_map.1 h1
      exact key x e (hX x hx1) (hx x hx1)
    · obtain ⟨x, hx1, e⟩ := List.mem_map.1 h1
      exact key x e (hY x hx1) (hy x hx1))
  have HNo := Lib.hid (fun hh => merge_no (base := base) (a := a) (b := b) hh)
  have HYes := Lib.hid (fun X Y h1 h2 => merge_yes (base := base) (a := a) (b := b) (X := X) (Y := Y) h1 h2)
  have HNil := Lib.hid (fun (W : World) => WdOwn.nil0 W w.heap.size)
  have HOkM : Hid (∀ (W : World) (B n c : Nat) (A : Option Addr) (xs : List Mr), MrsIn W B A n c xs → base.length ≤ 20 → a.length ≤ 20 → xs.map Mr.dat = mkAll base a → OkMs xs) := Lib.hid (fun W B n c A xs hI h1 h2 e => okMs_make (by omega) (by omega) hW hI e)
  have HOkM2 : Hid (∀ (W : World) (B n c : Nat) (A : Option Addr) (xs : List Mr), MrsIn W B A n c xs → base.length ≤ 20 → b.length ≤ 20 → xs.map Mr.dat = mkAll base b → OkMs xs) := Lib.hid (fun W B n c A xs hI h1 h2 e => okMs_make (by omega) (by omega) hW' hI e)
  clear h h' h0 hW hW' hW0
  go_enter Try.func8, Try.ntmps8
  go_wp2_with fail
  refine (HM1.out _ (Below.refl _ _)).mono ?_
  rintro e w1 ⟨ha1, hb1⟩
  rcases ha1 with ⟨hn1, A1, c1, rfl, hI1⟩ | ⟨A1, c1, xs, hs1, rfl, hI1⟩
  · have HR := Lib.hid (HNo.out (.inl hn1))
    clear hn1 hI1 HOkM HOkM2 HYes HNo
    go_wp2_with fail
    refine (HM2.out _ hb1).mono ?_
    rintro e w2 ⟨ha2, hb2⟩
    have b2 := below_next hb1 hb2
    rcases ha2 with ⟨_, A2, c2, rfl, _⟩ | ⟨A2, c2, ys, _, rfl, _⟩
    · go_wp2
      go_ret2
      exact ⟨MgAns.no HR.out (HNil.out _), b2⟩
    · generalize ys.length = N2 at *
      go_wp2
      go_ret2
      exact ⟨MgAns.no HR.out (HNil.out _), b2⟩
  · have HI1 := Lib.hid hI1
    have HS1 := Lib.hid hs1
    clear hI1 hs1
    obtain ⟨N1, hN1⟩ : ∃ N1, N1 = xs.length := ⟨_, rfl⟩
    rw [← hN1] at HI1 ⊢
    clear hN1
    go_wp2_with fail
    refine (HM2.out _ hb1).mono ?_
    rintro e w2 ⟨ha2, hb2⟩
    have b2 := below_next hb1 hb2
    rcases ha2 with ⟨hn2, A2, c2, rfl, _⟩ | ⟨A2, c2, ys, hs2, rfl, hI2⟩
    · have HR := Lib.hid (HNo.out (.inr hn2))
      clear hn2 HOkM HOkM2 HYes HNo
      go_wp2
      go_ret2
      exact ⟨MgAns.no HR.out (HNil.out _), b2⟩
    · have HI2 := Lib.hid hI2
      obtain ⟨hMg, e1, e2, l1, l2, l3⟩ := HYes.out _ _ HS1.out hs2
      have HI1' := Lib.hid (HI1.out.keep hb2)
      have hX := HOkM.out _ _ _ _ _ xs HI1.out l1 l2 e1
      have hY := HOkM2.out _ _ _ _ _ ys hI2 l1 l3 e2
      have HX := Lib.hid hX; have HY := Lib.hid hY
      have HMg := Lib.hid hMg
      have HBo2 := Lib.hid (HBo.out w2 A1 N1 c1 xs A2 ys.length c2 ys b2 hX hY HI1'.out hI2)
      clear hI2 hs2 hMg e1 e2 l1 l2 l3 hX hY HBo HOkM HOkM2 HYes HNo HM1 HM2
      obtain ⟨N2, hN2⟩ : ∃ N2, N2 = ys.length := ⟨_, rfl⟩
      rw [← hN2] at HI2 HBo2 ⊢
      clear hN2
      go_wp2_with fail
      refine HBo2.out.mono ?_
      rintro e w3 ⟨ha3, hb3⟩
      have b3 := below_next b2 hb3
      rcases ha3 with ⟨hn3, A3, c3, rfl, _⟩ | ⟨A3, c3, D, hs3, rfl, hI3⟩
      · have HR : Hid (mergeThree base a b = none) := Lib.hid (by rw [HMg.out, hn3]; rfl)
        clear hn3 HMg
        go_wp2
        go_ret2
        exact ⟨MgAns.no HR.out (HNil.out _), b3⟩
      · have HR : Hid (mergeThree base a b = some (doK base (D.map Mr.dat) 0)) := Lib.hid (by rw [HMg.out, hs3]; rfl)
        have hOk := HOd.out _ _ _ _ _ xs ys D HX.out HY.out (fun x hx => (HI1'.out.2.2.2.2 x hx).1) (fun x hx => (HI2.out.2.2.2.2 x hx).1) hI3 hs3
        have HD := Lib.hid (HDo.out w3 A3 D.length c3 D b3 hOk (both_valid hs3) hI3)
        clear hs3 hI3 hOk HMg HOd HDo HX HY HI1 HI1' HI2 HBo2
        obtain ⟨N3, hN3⟩ : ∃ N3, N3 = D.length := ⟨_, rfl⟩
        rw [← hN3] at HD ⊢
        clear hN3
        go_wp2_with fail
        refine HD.out.mono ?_
        rintro e w4 ⟨⟨A4, c4, rfl, hI4⟩, hb4⟩
        have HAns : Hid (MgAns w4 w.heap.size (mergeThree base a b) (.returned (.tuple #[.slice A4 (doK base (D.map Mr.dat) 0).length c4, .bool true]))) := Lib.hid (MgAns.yes HR.out rfl (ownG_mono hI4 b3.size))
        clear hI4 HR
        generalize (doK base (D.map Mr.dat) 0).length = N4 at *
        go_wp2
        go_ret2
        exact ⟨HAns.out, below_next b3 hb4⟩
set_option maxHeartbeats 3200000 in
theorem specMergeThree (A0 : Option Addr) (n0 c0 : Nat) (base : List Wd) (A : Option Addr) (n c : Nat) (a : List Wd) (A' : Option Addr) (n' c' : Nat) (b : List Wd) (w : World) (hW0 : ∀ l ∈ base, l.length ≤ maxLen) (hW : ∀ l ∈ a, l.length ≤ maxLen) (hW' : ∀ l ∈ b, l.length ≤ maxLen)
    (h0 : WdsIn w w.heap.size A0 n0 c0 base) (h : WdsIn w w.heap.size A n c a) (h' : WdsIn w w.heap.size A' n' c' b) :
    Calls Try.prog 6 #[.slice A0 n0 c0, .slice A n c, .slice A' n' c'] w fun e w' => MgAns w' w.heap.size (mergeThree base a b) e ∧ Below w.heap.size w w' := by
  have HM1 : Hid (∀ W, Below w.heap.size w W → Calls Try.prog 16 #[.slice A0 n0 c0, .slice A n c] W fun e w' => MkAns w' (makeO base a) e ∧ Below W.heap.size W w') := Lib.hid (fun W hb => specMarksMake A0 n0 c0 base A n c a W hW0 hW (h0.keep hb) (h.keep hb))
  have HM2 : Hid (∀ W, Below w.heap.size w W → Calls Try.prog 16 #[.slice A0 n0 c0, .slice A' n' c'] W fun e w' => MkAns w' (makeO base b) e ∧ Below W.heap.size W w') := Lib.hid (fun W hb => specMarksMake A0 n0 c0 base A' n' c' b W hW0 hW' (h0.keep hb) (h'.keep hb))
  have HBo : Hid (∀ W Ax nx cx xs Ay ny cy ys, Below w.heap.size w W → OkMs xs → OkMs ys → MrsIn W W.heap.size Ax nx cx xs → MrsIn W W.heap.size Ay ny cy ys → Calls Try.prog 17 #[.slice A0 n0 c0, .slice Ax nx cx, .slice Ay ny cy] W fun e w' => MkAns w' (bothP base (xs.map Mr.dat) (ys.map Mr.dat)) e ∧ Below W.heap.size W w') := Lib.hid (fun W Ax nx cx xs Ay ny cy ys hb hX hY hx hy => specMarksBoth A0 n0 c0 base Ax nx cx xs Ay ny cy ys W hW0 hX hY (h0.keep hb) hx hy)
  have HDo : Hid (∀ W Ax nx cx D, Below w.heap.size w W → OkMs D → marksB base (D.map Mr.dat) = true → MrsIn W W.heap.size Ax nx cx D → Calls Try.prog 18 #[.slice A0 n0 c0, .slice Ax nx cx] W fun e w' => WdsAns w' W.heap.size (doK base (D.map Mr.dat) 0) e ∧ Below W.heap.size W w') := Lib.hid (fun W Ax nx cx D hb hD hv hI => specL7Do A0 n0 c0 base Ax nx cx D W hW0 hD hv (h0.keep hb) hI)
  have HOd : Hid (∀ (W : World) (B : Nat) (A : Option Addr) (n c : Nat) (xs ys D : List Mr), OkMs xs → OkMs ys → (∀ x ∈ xs, x.put.length = x.n) → (∀ x ∈ ys, x.put.length = x.n) → MrsIn W B A n c D → bothP base (xs.map Mr.dat) (ys.map Mr.dat) = some (D.map Mr.dat) → OkMs D) := Lib.hid (fun W B A n c xs ys D hX hY hx hy hI hE d hd => by
    have hmem : d.dat ∈ mergeP (xs.map Mr.dat) (ys.map Mr.dat) := by
      unfold bothP at hE
      split at hE
      · split at hE
        · injection hE with hE; rw [hE]; exact List.mem_map_of_mem hd
        · cases hE
      · cases hE
    have hn := (hI.2.2.2.2 d hd).1
    have key : ∀ x : Mr, x.dat = d.dat → (SmM x ∧ ∀ l ∈ x.put, l.length ≤ maxLen) → x.put.length = x.n → SmM d ∧ ∀ l ∈ d.put, l.length ≤ maxLen := fun x e h1 h2 => by
      obtain ⟨e1, e2, e3⟩ := mr_eq.1 e
      rw [e3] at h1 h2
      have := h1.1.2.2
      exact ⟨⟨by rw [← e1]; exact h1.1.1, by rw [← e2]; exact h1.1.2.1, by omega⟩, h1.2⟩
    rcases (mergeP_mem _ _ _).1 hmem with h1 | h1
    · obtain ⟨x, hx1, e⟩ := List.mem_map.1 h1
      exact key x e (hX x hx1) (hx x hx1)
    · obtain ⟨x, hx1, e⟩ := List.mem_map.1 h1
      exact key x e (hY x hx1) (hy x hx1))
  have HNo := Lib.hid (fun hh => merge_no (base := base) (a := a) (b := b) hh)
  have HYes := Lib.hid (fun X Y h1 h2 => merge_yes (base := base) (a := a) (b := b) (X := X) (Y := Y) h1 h2)
  have HNil := Lib.hid (fun (W : World) => WdOwn.nil0 W w.heap.size)
  have HOkM : Hid (∀ (W : World) (B n c : Nat) (A : Option Addr) (xs : List Mr), MrsIn W B A n c xs → makeO base a = some (xs.map Mr.dat) → OkMs xs) := Lib.hid (fun W B n c A xs hI e => by
    unfold makeO at e
    split at e
    · rename_i e1
      rw [Bool.and_eq_true] at e1
      have l1 := (spB_iff.1 e1.1).2; have l2 := (spB_iff.1 e1.2).2
      injection e with e
      exact okMs_make (by omega) (by omega) hW hI e.symm
    · cases e)
  have HOkM2 : Hid (∀ (W : World) (B n c : Nat) (A : Option Addr) (xs : List Mr), MrsIn W B A n c xs → makeO base b = some (xs.map Mr.dat) → OkMs xs) := Lib.hid (fun W B n c A xs hI e => by
    unfold makeO at e
    split at e
    · rename_i e1
      rw [Bool.and_eq_true] at e1
      have l1 := (spB_iff.1 e1.1).2; have l2 := (spB_iff.1 e1.2).2
      injection e with e
      exact okMs_make (by omega) (by omega) hW' hI e.symm
    · cases e)
  clear h h' h0 hW hW' hW0
  have HMA : Hid (∀ W, Below w.heap.size w W → Calls Try.prog 16 #[.slice A0 n0 c0, .slice A n c] W fun e w' => Mk2 w' (makeO base a) e ∧ Below W.heap.size W w') := Lib.hid (fun W hb => (HM1.out W hb).mono fun e w' ⟨h1, h2⟩ => ⟨h1.to2 (fun xs _ _ _ hI he => HOkM.out _ _ _ _ _ xs hI he), h2⟩)
  have HMB : Hid (∀ W, Below w.heap.size w W → Calls Try.prog 16 #[.slice A0 n0 c0, .slice A' n' c'] W fun e w' => Mk2 w' (makeO base b) e ∧ Below W.heap.size W w') := Lib.hid (fun W hb => (HM2.out W hb).mono fun e w' ⟨h1, h2⟩ => ⟨h1.to2 (fun xs _ _ _ hI he => HOkM2.out _ _ _ _ _ xs hI he), h2⟩)
  clear HM1 HM2 HOkM HOkM2
  go_enter Try.func6, Try.ntmps6
  go_wp2_with fail
  refine (HMA.out _ (Below.refl _ _)).mono ?_
  rintro e w1 ⟨⟨A1, N1, c1, xs, p, rfl, hI1, hX1, hp1⟩, hb1⟩
  have HI1 := Lib.hid hI1; have HX := Lib.hid hX1; have HP1 := Lib.hid hp1
  clear hI1 hX1 hp1
  go_wp2_with fail
  refine (HMB.out _ hb1).mono ?_
  rintro e w2 ⟨⟨A2, N2, c2, ys, q, rfl, hI2, hX2, hp2⟩, hb2⟩
  have b2 := below_next hb1 hb2
  have HI2 := Lib.hid hI2; have HY := Lib.hid hX2; have HP2 := Lib.hid hp2
  have HI1' := Lib.hid (HI1.out.keep hb2)
  have HBo2 := Lib.hid (HBo.out w2 A1 N1 c1 xs A2 N2 c2 ys b2 HX.out HY.out HI1'.out hI2)
  clear hI2 hX2 hp2 HBo HMA HMB
  go_wp2_with fail
  refine HBo2.out.mono ?_
  rintro e w3 ⟨ha3, hb3⟩
  have b3 := below_next b2 hb3
  cases p with
  | false =>
    have HR := Lib.hid (HNo.out (.inl HP1.out))
    clear HNo HYes HP1 HP2 HOd HDo HBo2
    rcases ha3 with ⟨_, A3, c3, rfl, _⟩ | ⟨A3, c3, D, _, rfl, _⟩
    · go_wp2
      go_ret2
      exact ⟨MgAns.no HR.out (ownG_mono (WdOwn.made w3) b3.size), b3.alloc b3.size _⟩
    · generalize D.length = N3 at *
      go_wp2
      go_ret2
      exact ⟨MgAns.no HR.out (ownG_mono (WdOwn.made w3) b3.size), b3.alloc b3.size _⟩
  | true =>
  cases q with
  | false =>
    have HR := Lib.hid (HNo.out (.inr HP2.out))
    clear HNo HYes HP1 HP2 HOd HDo HBo2
    rcases ha3 with ⟨_, A3, c3, rfl, _⟩ | ⟨A3, c3, D, _, rfl, _⟩
    · go_wp2
      go_ret2
      exact ⟨MgAns.no HR.out (ownG_mono (WdOwn.made w3) b3.size), b3.alloc b3.size _⟩
    · generalize D.length = N3 at *
      go_wp2
      go_ret2
      exact ⟨MgAns.no HR.out (ownG_mono (WdOwn.made w3) b3.size), b3.alloc b3.size _⟩
  | true =>
    have hMg := (HYes.out _ _ HP1.out HP2.out).1
    have HMg := Lib.hid hMg
    clear hMg HNo HYes HP1 HP2
    rcases ha3 with ⟨hn3, A3, c3, rfl, _⟩ | ⟨A3, c3, D, hs3, rfl, hI3⟩
    · have HR : Hid (mergeThree base a b = none) := Lib.hid (by rw [HMg.out, hn3]; rfl)
      clear hn3 HMg HOd HDo HBo2
      go_wp2
      go_ret2
      exact ⟨MgAns.no HR.out (ownG_mono (WdOwn.made w3) b3.size), b3.alloc b3.size _⟩
    · have HR : Hid (mergeThree base a b = some (doK base (D.map Mr.dat) 0)) := Lib.hid (by rw [HMg.out, hs3]; rfl)
      have hOk := HOd.out _ _ _ _ _ xs ys D HX.out HY.out (fun x hx => (HI1'.out.2.2.2.2 x hx).1) (fun x hx => (HI2.out.2.2.2.2 x hx).1) hI3 hs3
      have HD := Lib.hid (HDo.out w3 A3 D.length c3 D b3 hOk (both_valid hs3) hI3)
      clear hs3 hI3 hOk HMg HOd HDo HX HY HI1 HI1' HI2 HBo2
      obtain ⟨N3, hN3⟩ : ∃ N3, N3 = D.length := ⟨_, rfl⟩
      rw [← hN3] at HD ⊢
      clear hN3
      go_wp2_with fail
      refine HD.out.mono ?_
      rintro e w4 ⟨⟨A4, c4, rfl, hI4⟩, hb4⟩
      have HAns : Hid (MgAns w4 w.heap.size (mergeThree base a b) (.returned (.tuple #[.slice A4 (doK base (D.map Mr.dat) 0).length c4, .bool true]))) := Lib.hid (MgAns.yes HR.out rfl (ownG_mono hI4 b3.size))
      clear hI4 HR
      generalize (doK base (D.map Mr.dat) 0).length = N4 at *
      go_wp2
      go_ret2
      exact ⟨HAns.out, below_next b3 hb4⟩
end Go.Proofs.Ytlfhgmbmgbbnjaa
