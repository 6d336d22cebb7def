import Derived.Test.YtlinhckgdfhppaaM10
set_option linter.unusedSimpArgs false
set_option linter.unusedVariables false
namespace Go.Proofs.Ytlinhckgdfhppaa
open Go Go.RowKit Go.Proofs.YtlinhckgdfhppaaK

/-! The law RestoreplanMore. -/
theorem suf_mono {g : Goal} {list : List Hold} {a b : List Int} (h : ∀ x ∈ a, x ∈ b) (hv : Valid g list) (hs : sufP g list a = true) : sufP g list b = true := by
  have h1 := (of_decide_eq_true hs).2
  have h2 := lackSum_mono (g := g) (list := list) (a := a) (b := b) fun x _ hx => h _ hx
  have h3 := (lackSum_bd (list := list) (devs := b) hv.modest).1
  exact decide_eq_true ⟨hv, by omega⟩
theorem gainP_nn {g : Goal} {list : List Hold} (devs : List Int) (d : Int) : 0 ≤ gainP g list devs d := by
  unfold gainP
  split
  · have h2 := lackSum_mono (g := g) (list := list) (a := devs) (b := devs ++ [d]) fun x _ hx => List.mem_append_left _ hx
    omega
  · omega
theorem gainP_mem {g : Goal} {list : List Hold} {devs : List Int} {d : Int} (h : d ∈ devs) : gainP g list devs d = 0 := by
  unfold gainP
  split
  · rw [lackSum_same (a := devs ++ [d]) (b := devs) fun x _ => by
      rw [List.mem_append, List.mem_singleton]
      exact ⟨fun h' => h'.elim id fun e => e ▸ h, .inl⟩]
    omega
  · rfl
section
variable (g : Goal) (A1 : Option Addr) (c1 : Nat) (A2 : Option Addr) (c2 : Nat) (A3 : Option Addr) (c3 : Nat) (A4 : Option Addr) (c4 : Nat) (list : List Hold) (A5 : Option Addr) (nd c5 : Nat) (devs : List Int) (A6 : Option Addr) (nm c6 : Nat) (more : List Int) (dv : Int) (w : World)
set_option maxRecDepth 100000 in
set_option maxHeartbeats 2000000 in
theorem law8 (hg : GoalIn w (fun k => k < w.heap.size) g A1 c1 A2 c2 A3 c3) (hl : Row kHold w (fun k => k < w.heap.size) A4 list.length list) (hd : Row (Kn.int .i64) w (fun k => k < w.heap.size) A5 nd devs) (hm : Row (Kn.int .i64) w (fun k => k < w.heap.size) A6 nm more) :
    Calls Try.prog 8 #[.agg (goalCells g A1 c1 A2 c2 A3 c3), .slice A4 list.length c4, .slice A5 nd c5, .slice A6 nm c6, .int .i64 dv] w fun e w' => e = .returned (.bool true) ∧ Below w.heap.size w w' := by
  have LC := As.mk (lawCtx g A1 c1 A2 c2 A3 c3 A4 c4 list w hg hl)
  have HD := As.mk hd
  have HM := As.mk hm
  obtain ⟨W0, hW0⟩ : ∃ W0 : World, W0 = w.alloc (.cells (goalCells g A1 c1 A2 c2 A3 c3) 26) := ⟨_, rfl⟩
  rw [← hW0] at LC
  have HW0 := As.mk hW0
  have r0 : Below W0.heap.size W0 W0 := Below.refl _ _
  obtain ⟨a0, a1, a2, a3, a4, al⟩ := LC.o.box W0 r0
  have hndm := hd.2.1
  have hnmm := hm.2.1
  have FEW := As.mk LC.o.few
  have CHK := As.mk LC.o.chk
  have hv := Classical.em (Valid g list)
  clear hg hl hd hm hW0
  by_cases hf : Few g list
  · rw [decide_eq_true hf] at FEW
    by_cases h20 : 20 < nd
    · have d1 : decide ((20 : Int) < (nd : Int)) = true := decide_eq_true (by omega)
      clear hv
      go_enter Try.func8, Try.ntmps8
      go_upto_region 1 with (fail)
      rw [← HW0.o]
      go_wp2_with (first
        | (go_at_call 10; refine (FEW.o _ r0).mono ?_; rintro e w1 ⟨rfl, h1, h01⟩)
        | (go_at_call 11; refine (LC.o.awk _ h1).mono ?_; rintro e w2 ⟨rfl, h2, _⟩))
      go_ret
      exact ⟨rfl, LC.o.up _ h2⟩
    · have d1 : decide ((20 : Int) < (nd : Int)) = false := decide_eq_false (by omega)
      by_cases h21 : 20 < nm
      · have d2 : decide ((20 : Int) < (nm : Int)) = true := decide_eq_true (by omega)
        clear hv
        go_enter Try.func8, Try.ntmps8
        go_upto_region 1 with (fail)
        rw [← HW0.o]
        go_wp2_with (first
          | (go_at_call 10; refine (FEW.o _ r0).mono ?_; rintro e w1 ⟨rfl, h1, h01⟩)
          | (go_at_call 11; refine (LC.o.awk _ h1).mono ?_; rintro e w2 ⟨rfl, h2, _⟩))
        go_ret
        exact ⟨rfl, LC.o.up _ h2⟩
      · have d2 : decide ((20 : Int) < (nm : Int)) = false := decide_eq_false (by omega)
        rcases hv with hv | hv
        · rw [checkOf_yes hv] at CHK
          have SUF : As (∀ (W : World) (B : Option Addr) (d n : Nat) (s : List Int), Below W0.heap.size W0 W → Row (Kn.int .i64) W (fun k => k < W.heap.size) B n s → Calls Try.prog 32 #[.agg (goalCells g A1 c1 A2 c2 A3 c3), .slice A4 list.length c4, .slice B n d] W fun e w' => e = .returned (.tuple #[.bool (sufP g list s), .int .i64 0]) ∧ Below W0.heap.size W0 w' ∧ Below W.heap.size W w') := ⟨fun W B d n s hW hr => (suffices_any g A1 c1 A2 c2 A3 c3 A4 c4 list B n d s W (LC.o.gg W hW) (LC.o.ll W hW) hr).mono fun e w' ⟨he, hb⟩ => ⟨by rw [he, checkOf_yes hv], bthen hW hb (Nat.le_refl _), hb⟩⟩
          have GAI : As (∀ W : World, Below W0.heap.size W0 W → Calls Try.prog 25 #[.agg (goalCells g A1 c1 A2 c2 A3 c3), .slice A4 list.length c4, .slice A5 nd c5, .int .i64 dv] W fun e w' => e = .returned (.tuple #[.int .i64 (gainP g list devs dv), .int .i64 0]) ∧ Below W0.heap.size W0 w' ∧ Below W.heap.size W w') := ⟨fun W hW => (gain_any g A1 c1 A2 c2 A3 c3 A4 c4 list A5 nd c5 devs W dv (LC.o.gg W hW) (LC.o.ll W hW) (row_up HD.o (LC.o.up W hW))).mono fun e w' ⟨he, hb⟩ => ⟨by rw [he, checkOf_yes hv], bthen hW hb (Nat.le_refl _), hb⟩⟩
          have CON : As (∀ W : World, Below W0.heap.size W0 W → Calls Try.prog 33 #[.slice A5 nd c5, .int .i64 dv] W fun e w' => e = .returned (.bool (decide (dv ∈ devs))) ∧ W = w') := ⟨fun W hW => contains_any A5 nd c5 _ devs dv W (row_up HD.o (LC.o.up W hW))⟩
          have hmono : sufP g list devs = true → sufP g list (more ++ devs) = true := suf_mono (fun x hx => List.mem_append_right _ hx) hv
          have hnn := gainP_nn (g := g) (list := list) devs dv
          have hz : dv ∈ devs → gainP g list devs dv = 0 := gainP_mem
          have dnn : decide (0 ≤ gainP g list devs dv) = true := decide_eq_true hnn
          clear hv hf
          obtain ⟨bc, hbc⟩ : ∃ bc, decide (dv ∈ devs) = bc := ⟨_, rfl⟩
          have hz2 : bc = true → (gainP g list devs dv == 0) = true := fun e => beq_iff_eq.2 (hz (of_decide_eq_true (hbc.trans e)))
          rw [hbc] at CON
          clear hbc hz
          have SU1 := As.mk fun W hW => SUF.o W A5 c5 nd devs hW (row_up HD.o (LC.o.up W hW))
          have SU2 := As.mk fun W B d hW hr => SUF.o W B d (more ++ devs).length (more ++ devs) hW hr
          have HLN : As ((more ++ devs).length = nm + nd) := ⟨by rw [List.length_append, HM.o.1, HD.o.1]⟩
          generalize gainP g list devs dv = gv at *
          generalize sufP g list devs = s1 at *
          generalize sufP g list (more ++ devs) = s2 at *
          have hs12 : s1 = false ∨ (s1 = true ∧ s2 = true) := by
            cases s1
            · exact .inl rfl
            · exact .inr ⟨rfl, hmono rfl⟩
          clear SUF hmono hnn
          have E0 : As (∀ W : World, Below W0.heap.size W0 W → Own (Kn.int .i64) 3 (W.alloc (.cells #[] 3)) W0.heap.size (.slice (some ⟨W.heap.size, 0, none⟩) 0 0) [] ∧ Row (Kn.int .i64) (W.alloc (.cells #[] 3)) (fun k => True ∧ Value.ownBlock (.slice (some ⟨W.heap.size, 0, none⟩) 0 0) ≠ some k) A6 nm more ∧ Below W.heap.size W (W.alloc (.cells #[] 3)) ∧ W0.heap.size ≤ (W.alloc (.cells #[] 3)).heap.size) := ⟨fun W hW => by
            have ha : Below W.heap.size W (W.alloc (.cells #[] 3)) := (Below.refl _ _).alloc (Nat.le_refl _) _
            refine ⟨Own.empty _ _ _ _ hW.size, ((row_up HM.o (LC.o.up W hW)).below ha).mono fun k hk => ⟨trivial, fun e => by simp [Value.ownBlock] at e; omega⟩, ha, Nat.le_trans hW.size ha.size⟩⟩
          have hl1 : more.length = nm := HM.o.1
          have S1 : As (([] : List Int).length + nm ≤ 9223372036854775807 ∧ (([] : List Int).length + nm) * 8 ≤ 140737488355328 ∧ ([] ++ more).length + nd ≤ 9223372036854775807 ∧ (([] ++ more).length + nd) * 8 ≤ 140737488355328) := ⟨by simp; omega⟩
          clear hl1
          go_enter Try.func8, Try.ntmps8
          go_upto_region 1 with (fail)
          rw [← HW0.o]
          go_upto_region 3 with (first
            | (go_at_call 10; refine (FEW.o _ r0).mono ?_; rintro e w1 ⟨rfl, h1, h01⟩; obtain ⟨a0, a1, a2, a3, a4, al⟩ := LC.o.box w1 h1)
            | (go_at_call 31; refine (CHK.o _ h1).mono ?_; rintro e w2 ⟨rfl, h2, h12⟩; obtain ⟨a0, a1, a2, a3, a4, al⟩ := LC.o.box w2 h2))
          have HE := As.mk (E0.o w2 h2)
          have H2 := As.mk h2
          have hwW : w.heap.size ≤ W0.heap.size := (LC.o.up W0 r0).size
          have B2a := As.mk (bthen H2.o HE.o.2.2.1 (Nat.le_refl _))
          go_upto_region 4 with (first
            | (at_builtin; refine app_row (Kn.int .i64) W0.heap.size rfl (.tmp 39) (.tmp 40) 24 (.int .i64 0) 8 rfl Try.underlying24 info_int rfl (by decide) (.slice (some ⟨w2.heap.size, 0, none⟩) 0 0) [] more A6 nm c6 rfl rfl HE.o.1 HE.o.2.1 HE.o.2.2.2 S1.o.1 S1.o.2.1 ?_; intro v3 w3 HO3 hg3 hat3; have B3 := As.mk (B2a.o.trans (HE.o.1.base_le hg3 (Nat.le_refl _) HE.o.2.2.2)); have H3 := As.mk HO3; clear hg3 hat3 HO3)
            | (at_builtin; refine app_row (Kn.int .i64) W0.heap.size rfl (.tmp 41) (.tmp 42) 24 (.int .i64 0) 8 rfl Try.underlying24 info_int rfl (by decide) v3 ([] ++ more) devs A5 nd c5 rfl rfl H3.o ((HD.o.below (LC.o.up _ B3.o)).mono fun k hk => ⟨trivial, fun e => by have := (H3.o.lt k e).1; omega⟩) B3.o.size S1.o.2.2.1 S1.o.2.2.2 ?_; intro v4 w4 HO4 hg4 hat4; have B4 := B3.o.trans (H3.o.base_le hg4 (Nat.le_refl _) B3.o.size)))
          obtain ⟨A7, c7, rfl, hc7, hr7⟩ := HO4.shape
          have HR7 : As (Row (Kn.int .i64) w4 (fun k => k < w4.heap.size) A7 (more ++ devs).length (more ++ devs)) := ⟨hr7⟩
          obtain ⟨a0, a1, a2, a3, a4, al⟩ := LC.o.box w4 B4
          clear hr7 hg4 hat4 HO4 hc7 H3 B3 B2a HE E0
          rw [show ([] ++ more ++ devs : List Int).length = (more ++ devs).length from rfl]
          generalize hall : more ++ devs = all at *
          clear hall
          go_upto_region 7 with (first
            | (go_at_call_of 32 A7; refine (SU2.o _ _ _ h5 (row_up HR7.o hb5)).mono ?_; rintro e w6 ⟨rfl, h6, hb6⟩; obtain ⟨a0, a1, a2, a3, a4, al⟩ := LC.o.box w6 h6)
            | (go_at_call 32; refine (SU1.o _ B4).mono ?_; rintro e w5 ⟨rfl, h5, hb5⟩; obtain ⟨a0, a1, a2, a3, a4, al⟩ := LC.o.box w5 h5)
            | (go_at_call 25; refine (GAI.o _ h6).mono ?_; rintro e w7 ⟨rfl, h7, hb7⟩))
          clear a0 a1 a2 a3 a4 al SU1 SU2 GAI HR7
          have CON7 := As.mk (CON.o w7 h7)
          have AWK7 := As.mk (LC.o.awk w7 h7)
          rcases hs12 with rfl | ⟨rfl, rfl⟩
          all_goals
            cases bc with
            | true =>
              have dz := hz2 rfl
              have dz2 : (gv != 0) = false := by simp [bne, dz]
              go_wp2_with (first
                | (go_at_call 33; refine CON7.o.mono ?_; rintro e w8 ⟨rfl, rfl⟩)
                | (go_at_call 11; refine AWK7.o.mono ?_; rintro e w8 ⟨rfl, h8, _⟩))
              go_ret
              exact ⟨rfl, LC.o.up _ h8⟩
            | false =>
              go_wp2_with (first
                | (go_at_call 33; refine CON7.o.mono ?_; rintro e w8 ⟨rfl, rfl⟩)
                | (go_at_call 11; refine AWK7.o.mono ?_; rintro e w8 ⟨rfl, h8, _⟩))
              go_ret
              exact ⟨rfl, LC.o.up _ h8⟩
        · rw [checkOf_no hv] at CHK
          clear hv
          go_enter Try.func8, Try.ntmps8
          go_upto_region 1 with (fail)
          rw [← HW0.o]
          go_wp2_with (first
            | (go_at_call 10; refine (FEW.o _ r0).mono ?_; rintro e w1 ⟨rfl, h1, h01⟩; obtain ⟨a0, a1, a2, a3, a4, al⟩ := LC.o.box w1 h1)
            | (go_at_call 31; refine (CHK.o _ h1).mono ?_; rintro e w2 ⟨rfl, h2, h12⟩)
            | (go_at_call 11; refine (LC.o.awk _ h2).mono ?_; rintro e w3 ⟨rfl, h3, _⟩))
          go_ret
          exact ⟨rfl, LC.o.up _ h3⟩
  · rw [decide_eq_false hf] at FEW
    clear hf hv
    go_enter Try.func8, Try.ntmps8
    go_upto_region 1 with (fail)
    rw [← HW0.o]
    go_wp2_with (first
      | (go_at_call 10; refine (FEW.o _ r0).mono ?_; rintro e w1 ⟨rfl, h1, h01⟩)
      | (go_at_call 11; refine (LC.o.awk _ h1).mono ?_; rintro e w2 ⟨rfl, h2, _⟩))
    go_ret
    exact ⟨rfl, LC.o.up _ h2⟩
end
end Go.Proofs.Ytlinhckgdfhppaa
