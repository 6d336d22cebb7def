import Derived.Test.YtlinhckgdfhppaaC52
import Derived.Test.YtlinhckgdfhppaaP12
import Derived.Test.YtlinhckgdfhppaaK11
import Derived.Deep.DeepCutAuto
set_option linter.unusedSimpArgs false
set_option linter.unusedVariables false
namespace Go.Proofs.Ytlinhckgdfhppaa
open Go Go.RowKit Go.Proofs.YtlinhckgdfhppaaK

/-! The law RestoreplanFetched. -/
attribute [local go_sem high] eq_piece
theorem eq_need69 (d : Nat) (w : World) (x1 y1 : ByteArray) (x2 y2 : Int) :
    (Op.equalIn (d + 2) 69 (.agg #[.string x1, .int .i64 x2]) (.agg #[.string y1, .int .i64 y2])).run Try.prog w = .ok (x1.toList == y1.toList && (x2 == y2)) w := by
  refine eqA_of Try.underlying69 (by kernel_rfl) ?_
  refine eqf_cons (by rfl) (by first | (go_simp; done) | (go_simp; rfl)) (by first | (go_simp; done) | (go_simp; rfl)) (by go_simp) ?_
  exact eqf_last (by rfl) (by first | (go_simp; done) | (go_simp; rfl)) (by first | (go_simp; done) | (go_simp; rfl)) (by go_simp)
attribute [local go_sem high] eq_need69
theorem totalP_take (xs : List Need) (k : Nat) (h : k < xs.length) : totalP (xs.take (k + 1)) = totalP (xs.take k) + (pg xs k).2 := by
  unfold totalP
  rw [List.take_succ_eq_append_getElem h, List.map_append, List.map_singleton, sum_snoc, pg_eq _ _ h]
theorem totalP_bd (xs : List Need) (h : ∀ n ∈ xs, 0 ≤ n.2 ∧ n.2 ≤ 1000) : ∀ k, k ≤ xs.length → 0 ≤ totalP (xs.take k) ∧ totalP (xs.take k) ≤ 1000 * k
  | 0, _ => by simp [totalP]
  | k + 1, hk => by
    have := totalP_bd xs h k (by omega)
    have h1 := h (pg xs k) (by rw [pg_eq _ _ hk]; exact List.getElem_mem _)
    rw [totalP_take _ _ hk]
    omega
set_option maxRecDepth 100000 in
set_option maxHeartbeats 1000000 in
theorem total_any (A : Option Addr) (n c : Nat) (ok : Nat → Prop) (xs : List Need) (w : World) (h : Row kPiece w ok A n xs) (hb : ∀ x ∈ xs, 0 ≤ x.2 ∧ x.2 ≤ 1000) (hn : n ≤ 1000) :
    Calls Try.prog 30 #[.slice A n c] w fun e w' => e = .returned (.int .i64 (totalP xs)) ∧ w = w' := by
  have hm := h.2.1
  have HL := As.mk h.1
  have HR := As.mk h
  have HB := As.mk (totalP_bd xs hb)
  have HN := As.mk (totalP_take xs)
  clear h hb
  go_enter Try.func30, Try.ntmps30
  go_wp2
  go_loopw [3, 4] (fun v i' wr => ∃ k : Nat, k ≤ n ∧ v = .int .i64 (totalP (xs.take k)) ∧ i' = .int .i64 k ∧ w = wr) (fun _ i' _ => n - (intOf i').toNat)
  case atStart => exact ⟨0, Nat.zero_le _, rfl, rfl, rfl⟩
  case round =>
    obtain ⟨k, hk, rfl, rfl, rfl⟩ := hrel
    by_cases hlt : k < n
    · obtain ⟨ad, rfl, _, _, p0, p1⟩ := rowPiece HR.o k hlt
      have h1 := HB.o k (by rw [HL.o]; omega)
      have h2 := HB.o (k + 1) (by rw [HL.o]; omega)
      have h3 := HN.o k (by rw [HL.o]; omega)
      have HS := As.mk h3
      generalize pg xs k = y at *
      have dw : IntKind.i64.wrap (totalP (xs.take k) + y.2) = totalP (xs.take k) + y.2 := IntWalk.i64_in _ (by omega)
      generalize totalP (xs.take k) = t at *
      clear h1 h2 h3
      go_wp2
      go_roundw
      case rel => exact ⟨k + 1, by omega, by rw [HS.o], by go_num, trivial⟩
      case measure => simp [intOf]; omega
    · have e : k = n := by omega
      subst e
      have e2 : xs.take k = xs := List.take_of_length_le (by rw [HL.o]; omega)
      rw [e2]
      go_wp2
      go_ret
      exact ⟨rfl, rfl⟩
theorem fold_len (g : Goal) (d : Int) : ∀ (ps : List Piece) (a : List Piece × List Fetch), (ps.foldl (refStep g d) a).2.length ≤ a.2.length + ps.length
  | [], a => by simp
  | p :: ps, a => by
    have h1 := fold_len g d ps (refStep g d a p)
    have h2 := (refStep_len g d a p).2
    simp only [List.foldl_cons, List.length_cons]
    omega
theorem refFetTo_len {g : Goal} {list : List Hold} {devs : List Int} (hpl : ∀ h ∈ list, h.pieces.length ≤ 1000) : ∀ k, (refFetTo g list devs k).2.length ≤ 1000 * k
  | 0 => by simp [refFetTo]
  | k + 1 => by
    have ih := refFetTo_len (g := g) (devs := devs) hpl k
    rw [refFetTo]
    split
    · omega
    · unfold refDev
      split
      · omega
      · rename_i hneg
        obtain ⟨j, hj, ej⟩ := findDev_at hneg
        have h1 := fold_len g (ig devs k) (hgt list (findDev list (ig devs k)).toNat).pieces (refFetTo g list devs k)
        have h2 := hpl (hgt list j) (by rw [hgt_eq _ _ hj]; exact List.getElem_mem _)
        rw [ej, Int.toNat_natCast] at h1 ⊢
        omega
theorem lkTo_bd {needs : List Need} {ls : List Int} (h : ∀ x ∈ ls, 0 ≤ x ∧ x ≤ 1000) : ∀ k, k ≤ ls.length → ∀ n ∈ lkTo needs ls k, 0 ≤ n.2 ∧ n.2 ≤ 1000
  | 0, _ => by simp [lkTo]
  | k + 1, hk => by
    have ih := lkTo_bd (needs := needs) h k (by omega)
    rw [lkTo]
    split
    · intro n hn
      rw [List.mem_append, List.mem_singleton] at hn
      rcases hn with hn | rfl
      · exact ih n hn
      · exact h _ (ig_mem ls k (by omega))
    · exact ih
theorem lackingP_bd {G : Goal} {list : List Hold} {devs : List Int} (hv : Valid G list) : (∀ n ∈ lackingP G list devs, 0 ≤ n.2 ∧ n.2 ≤ 1000) ∧ (lackingP G list devs).length ≤ G.needs.length := by
  have hll : (lackNeeds G list devs).length = G.needs.length := by simp [lackNeeds]
  rw [lackingP, if_pos hv]
  refine ⟨lkTo_bd (fun x hx => ?_) _ (by omega), lkTo_len _ _ _⟩
  unfold lackNeeds at hx
  obtain ⟨n, hn, rfl⟩ := List.mem_map.1 hx
  exact lackNeed_bd hv.modest hn
/-- The kept goal in its box: the needs, threshold, index and shares of the goal, the pieces P. -/
structure HV (W2 : World) (g : Goal) (A1 : Option Addr) (c1 : Nat) (A3 : Option Addr) (c3 : Nat) (P : List Piece) (v : Value) (wr : World) : Prop where
  bx : wr.heap[W2.heap.size]? = some (.cells #[.slice A1 g.needs.length c1, .int .i64 g.thr, .bool g.index, v, .slice A3 g.shares.length c3] 26 (0, 0))
  oh : Own kPiece 52 wr (W2.heap.size + 1) v P
  bel : Below W2.heap.size W2 wr
theorem HV.below {W2 : World} {g : Goal} {A1 : Option Addr} {c1 : Nat} {A3 : Option Addr} {c3 : Nat} {P : List Piece} {v : Value} {wr w' : World} (h : HV W2 g A1 c1 A3 c3 P v wr) (hb : Below wr.heap.size wr w') : HV W2 g A1 c1 A3 c3 P v w' :=
  ⟨(hb.block _ (blk_lt h.bx)).trans h.bx, h.oh.below hb, bthen h.bel hb (Nat.le_refl _)⟩
theorem HV.put {W2 : World} {g : Goal} {A1 : Option Addr} {c1 : Nat} {A3 : Option Addr} {c3 : Nat} {P : List Piece} {x v : Value} {w' : World} (bx : w'.heap[W2.heap.size]? = some (.cells #[.slice A1 g.needs.length c1, .int .i64 g.thr, .bool g.index, x, .slice A3 g.shares.length c3] 26 (0, 0))) (ho : Own kPiece 52 w' (W2.heap.size + 1) v P) (hb : Below W2.heap.size W2 w') :
    HV W2 g A1 c1 A3 c3 P v (w'.setCell ⟨W2.heap.size, 3, none⟩ v) :=
  ⟨blk_set bx v, ho.set_flat flat_piece (by show W2.heap.size < _; omega) v, hb.setCell (by show W2.heap.size ≤ W2.heap.size; omega) v⟩
/-- A block from B on is written, or none. -/
def GrowAt (B : Nat) (w w' : World) : Prop := ∃ r : Option Nat, (∀ b, r = some b → B ≤ b) ∧ w.grownBy w' r
theorem GrowAt.below {B : Nat} {w w' : World} (h : GrowAt B w w') (hb : B ≤ w.heap.size) : Below B w w' := by
  obtain ⟨r, hr, hg⟩ := h
  exact below_of_grown hg hb hr
def T25 (B b i : Nat) (w w' : World) : Prop := if i = 21 then ∃ v, w' = w.setCell ⟨b, 3, none⟩ v else if i = 9 ∨ i = 19 then GrowAt B w w' else Below w.heap.size w w'
/-- What the operations yield that lay the list without one piece. -/
def G25 (B b : Nat) (cs : Value → Array Value) (val : Nat → Value) (PT PE : List Piece) (j : Nat) (vs : Nat → Value) (w : World) : Prop :=
  match j with
  | 0 => ∃ X, vs 0 = .slice (some ⟨X, 0, none⟩) 0 0 ∧ B ≤ X ∧ w.heap[X]? = some (.cells #[] 52 (0, 0))
  | 9 => ∃ A c, vs 9 = .slice A PT.length c ∧ Own kPiece 52 w B (.slice A PT.length c) PT
  | 19 => ∃ A c, vs 19 = .slice A PE.length c ∧ Own kPiece 52 w B (.slice A PE.length c) PE
  | 21 => ∃ A c, w.heap[b]? = some (.cells (cs (.slice A PE.length c)) 26 (0, 0)) ∧ Own kPiece 52 w B (.slice A PE.length c) PE
  | j => vs j = val j
theorem G25.other {B b : Nat} {cs : Value → Array Value} {val : Nat → Value} {PT PE : List Piece} {j : Nat} {vs : Nat → Value} {w : World} (h0 : j ≠ 0) (h9 : j ≠ 9) (h19 : j ≠ 19) (h21 : j ≠ 21) : G25 B b cs val PT PE j vs w ↔ vs j = val j := by
  unfold G25
  split <;> first | exact Iff.rfl | contradiction
theorem G25.keep {B b : Nat} {cs : Value → Array Value} {val : Nat → Value} {PT PE : List Piece} {i j : Nat} {vs : Nat → Value} {w w' : World} (hbB : b < B) (hji : j ≠ i) (h0 : j = 0 → ¬ (i = 9 ∨ i = 19)) (h9 : j = 9 → i ≠ 19) (h19 : j = 19 → i ≠ 9) (h21 : j = 21 → ¬ (i = 9 ∨ i = 19)) (hT : T25 B b i w w')
    (h : G25 B b cs val PT PE j vs w) : G25 B b cs val PT PE j vs w' := by
  rcases (show j = 0 ∨ j = 9 ∨ j = 19 ∨ j = 21 ∨ (j ≠ 0 ∧ j ≠ 9 ∧ j ≠ 19 ∧ j ≠ 21) by omega) with rfl | rfl | rfl | rfl | ⟨k0, k9, k19, k21⟩
  · obtain ⟨X, e, hX, hx⟩ := h
    refine ⟨X, e, hX, ?_⟩
    unfold T25 at hT
    split at hT
    · obtain ⟨v, rfl⟩ := hT
      exact (blk_far (by show X ≠ b; omega) v).trans hx
    · split at hT
      · rename_i h; exact absurd h (h0 rfl)
      · exact (hT.block X (blk_lt hx)).trans hx
  · obtain ⟨A, c, e, ho⟩ := h
    refine ⟨A, c, e, ?_⟩
    unfold T25 at hT
    split at hT
    · obtain ⟨v, rfl⟩ := hT
      exact ho.set_flat flat_piece (by show b < B; omega) v
    · split at hT
      · rename_i h; exact absurd h (fun h => h.elim (fun e => hji e.symm) (h9 rfl))
      · exact ho.below hT
  · obtain ⟨A, c, e, ho⟩ := h
    refine ⟨A, c, e, ?_⟩
    unfold T25 at hT
    split at hT
    · obtain ⟨v, rfl⟩ := hT
      exact ho.set_flat flat_piece (by show b < B; omega) v
    · split at hT
      · rename_i h; exact absurd h (fun h => h.elim (h19 rfl) (fun e => hji e.symm))
      · exact ho.below hT
  · obtain ⟨A, c, e, ho⟩ := h
    unfold T25 at hT
    split at hT
    · rename_i h; exact absurd h.symm hji
    · split at hT
      · rename_i h; exact absurd h (h21 rfl)
      · exact ⟨A, c, (hT.block b (blk_lt e)).trans e, ho.below hT⟩
  · rw [G25.other k0 k9 k19 k21] at h ⊢
    exact h
theorem G25.same {B b : Nat} {cs : Value → Array Value} {val : Nat → Value} {PT PE : List Piece} {j : Nat} {vs vs' : Nat → Value} {w : World} (h1 : vs j = vs' j) (h : G25 B b cs val PT PE j vs w) : G25 B b cs val PT PE j vs' w := by
  rcases (show j = 0 ∨ j = 9 ∨ j = 19 ∨ j = 21 ∨ (j ≠ 0 ∧ j ≠ 9 ∧ j ≠ 19 ∧ j ≠ 21) by omega) with rfl | rfl | rfl | rfl | ⟨k0, k9, k19, k21⟩
  · obtain ⟨X, e, h⟩ := h
    exact ⟨X, h1.symm.trans e, h⟩
  · obtain ⟨A, c, e, h⟩ := h
    exact ⟨A, c, h1.symm.trans e, h⟩
  · obtain ⟨A, c, e, h⟩ := h
    exact ⟨A, c, h1.symm.trans e, h⟩
  · exact h
  · rw [G25.other k0 k9 k19 k21] at h ⊢
    rw [← h1]; exact h
theorem t25_same {B b i : Nat} {w w' : World} (h : i ≠ 21) (h' : ¬ (i = 9 ∨ i = 19)) (hb : Below w.heap.size w w') : T25 B b i w w' := by
  unfold T25
  rw [if_neg h, if_neg h']
  exact hb
def nd25 : List (Nat × Nat) := [(2, 1), (4, 3), (5, 4), (7, 5), (7, 6), (8, 2), (8, 7), (9, 0), (9, 8), (11, 10), (13, 12), (14, 13), (16, 14), (16, 15), (17, 16), (18, 11), (18, 17), (19, 9), (19, 18), (21, 19), (21, 20)]
def val25 (hb gb b n k q : Nat) (Av : Option Addr) (pl cv : Nat) (A2 : Option Addr) (c2 : Nat) (Ad : Option Addr) (j : Nat) : Value :=
  match j with
  | 1 => .pointer (some ⟨hb, 3, none⟩)
  | 2 => .slice Av pl cv
  | 3 => .pointer (some ⟨gb, 3, none⟩)
  | 4 => .slice A2 n c2
  | 5 => .int .i64 (n : Int)
  | 6 => .int .i64 (k : Int)
  | 7 => .int .i64 (q : Int)
  | 8 => .slice Av q cv
  | 10 => .pointer (some ⟨hb, 3, none⟩)
  | 11 => .slice Av pl cv
  | 12 => .pointer (some ⟨gb, 3, none⟩)
  | 13 => .slice A2 n c2
  | 14 => .int .i64 (n : Int)
  | 15 => .int .i64 (k : Int)
  | 16 => .int .i64 (q : Int)
  | 17 => .int .i64 ((q : Int) + 1)
  | 18 => .slice Ad (pl - (q + 1)) (cv - (q + 1))
  | 20 => .pointer (some ⟨b, 3, none⟩)
  | _ => undef
section
variable (g : Goal) (A1 : Option Addr) (c1 : Nat) (A2 : Option Addr) (c2 : Nat) (A3 : Option Addr) (c3 : Nat) (A4 : Option Addr) (c4 : Nat) (list : List Hold) (A5 : Option Addr) (nd c5 : Nat) (devs : List Int) (w : World)
set_option maxRecDepth 100000 in
set_option maxHeartbeats 4000000 in
theorem law7 (hg : GoalIn w (fun k => k < w.heap.size) g A1 c1 A2 c2 A3 c3) (hl : Row kHold w (fun k => k < w.heap.size) A4 list.length list) (hd : Row (Kn.int .i64) w (fun k => k < w.heap.size) A5 nd devs) :
    Calls Try.prog 7 #[.agg (goalCells g A1 c1 A2 c2 A3 c3), .slice A4 list.length c4, .slice A5 nd c5] w fun e w' => e = .returned (.bool true) ∧ Below w.heap.size w w' := by
  have LC := As.mk (lawCtx g A1 c1 A2 c2 A3 c3 A4 c4 list w hg hl)
  have HD := As.mk hd
  obtain ⟨W0, hW0⟩ : ∃ W0 : World, W0 = w.alloc (.cells (goalCells g A1 c1 A2 c2 A3 c3) 26) := ⟨_, rfl⟩
  rw [← hW0] at LC
  have HW0 := As.mk hW0
  have r0 : Below W0.heap.size W0 W0 := Below.refl _ _
  obtain ⟨a0, a1, a2, a3, a4, al⟩ := LC.o.box W0 r0
  have hndm := hd.2.1
  have FEW := As.mk LC.o.few
  have hv := Classical.em (Valid g list)
  clear hg hl hd hW0
  by_cases hf : Few g list
  · rw [decide_eq_true hf] at FEW
    by_cases h20 : 20 < nd
    · have d1 : decide ((20 : Int) < (nd : Int)) = true := decide_eq_true (by omega)
      clear hv
      go_enter Try.func7, Try.ntmps7
      go_upto_region 1 with (fail)
      rw [← HW0.o]
      go_wp2_with (first
        | (go_at_call 10; refine (FEW.o _ r0).mono ?_; rintro e w1 ⟨rfl, h1, h01⟩)
        | (go_at_call 11; refine (LC.o.awk _ h1).mono ?_; rintro e w2 ⟨rfl, h2, _⟩))
      go_ret
      exact ⟨rfl, LC.o.up _ h2⟩
    · have d1 : decide ((20 : Int) < (nd : Int)) = false := decide_eq_false (by omega)
      have hpl : ∀ h ∈ list, h.pieces.length ≤ 1000 := fun h hh => by have := (hf.1 h hh).1; omega
      have hgp : g.pieces.length ≤ 1000 := by have := hf.2.2.1; omega
      have hgn : g.needs.length ≤ 6 := hf.2.1
      rcases hv with hv | hv
      · have FET : As (∀ W : World, Below W0.heap.size W0 W → Calls Try.prog 19 #[.agg (goalCells g A1 c1 A2 c2 A3 c3), .slice A4 list.length c4, .slice A5 nd c5] W fun e w' => ∃ A c, e = .returned (.tuple #[.slice A (fetchesP g list devs).length c, .int .i64 0]) ∧ Row kFetch w' (fun k => k < w'.heap.size) A (fetchesP g list devs).length (fetchesP g list devs) ∧ Below W0.heap.size W0 w' ∧ Below W.heap.size W w') := ⟨fun W hW =>
          (fetches_any g A1 c1 A2 c2 A3 c3 A4 c4 list A5 nd c5 devs W (LC.o.gg W hW) (LC.o.ll W hW) (row_up HD.o (LC.o.up W hW)) (by omega) hpl).mono fun e w' ⟨A, c, he, _, hr, hb⟩ => ⟨A, c, by rw [he, checkOf_yes hv], hr.mono fun _ h => h.2, bthen hW hb (Nat.le_refl _), hb⟩⟩
        have hfl : (fetchesP g list devs).length ≤ 1000000 := by
          have h1 := refFetTo_len (g := g) (devs := devs) hpl devs.length
          have h2 : devs.length = nd := HD.o.1
          rw [fetches_eq hv]
          unfold refFetchesOf
          omega
        have LCK : As (∀ (W : World) (P : List Piece) (Av : Option Addr) (cv : Nat), Below W0.heap.size W0 W → okPieces P → Row kPiece W (fun k => k < W.heap.size) Av P.length P → P.length ≤ cv → Calls Try.prog 29 #[.agg #[.slice A1 g.needs.length c1, .int .i64 g.thr, .bool g.index, .slice Av P.length cv, .slice A3 g.shares.length c3], .slice A4 list.length c4, .slice none 0 0] W fun e w' => ∃ A c n b, e = .returned (.tuple #[.slice A (lackingP (gotG g P) list []).length c, .int .i64 n, .bool b, .int .i64 0]) ∧ Row kPiece w' (fun k => k < w'.heap.size) A (lackingP (gotG g P) list []).length (lackingP (gotG g P) list []) ∧ Below W0.heap.size W0 w' ∧ Below W.heap.size W w') := ⟨fun W P Av cv hW hP hR hc => by
          have hG := LC.o.gg W hW
          exact (lackingG_any (gotG g P) A1 c1 Av cv A3 c3 A4 c4 list none 0 0 [] W ⟨hG.n, hG.cn, hR, hc, hG.s, hG.cs⟩ (LC.o.ll W hW) (Row.nil _ _ _ _)).mono fun e w' ⟨A, c, n, b, he, hr, hb⟩ => ⟨A, c, n, b, by rw [he, checkOf_yes (got_valid hv hP)], hr, bthen hW hb (Nat.le_refl _), hb⟩⟩
        have LCD : As (∀ W : World, Below W0.heap.size W0 W → Calls Try.prog 29 #[.agg (goalCells g A1 c1 A2 c2 A3 c3), .slice A4 list.length c4, .slice A5 nd c5] W fun e w' => ∃ A c n b, e = .returned (.tuple #[.slice A (lackingP g list devs).length c, .int .i64 n, .bool b, .int .i64 0]) ∧ Row kPiece w' (fun k => k < w'.heap.size) A (lackingP g list devs).length (lackingP g list devs) ∧ Below W0.heap.size W0 w' ∧ Below W.heap.size W w') := ⟨fun W hW =>
          (lackingG_any g A1 c1 A2 c2 A3 c3 A4 c4 list A5 nd c5 devs W (LC.o.gg W hW) (LC.o.ll W hW) (row_up HD.o (LC.o.up W hW))).mono fun e w' ⟨A, c, n, b, he, hr, hb⟩ => ⟨A, c, n, b, by rw [he, checkOf_yes hv], hr, bthen hW hb (Nat.le_refl _), hb⟩⟩
        have HOK := As.mk (got_ok (devs := devs) hv)
        have HSM : As (lackingP (gotG g (g.pieces ++ (fetchesP g list devs).map (·.2))) list [] = lackingP g list devs) := ⟨by
          rw [lackingP, lackingP, if_pos hv, if_pos (got_valid hv HOK.o), got_same hv]
          rfl⟩
        have HLS : As (∀ k, k < (fetchesP g list devs).length → okPieces ((g.pieces ++ (fetchesP g list devs).map (·.2)).eraseIdx (g.pieces.length + k)) ∧ totalP (lackingP (gotG g ((g.pieces ++ (fetchesP g list devs).map (·.2)).eraseIdx (g.pieces.length + k))) list []) = totalP (lackingP g list devs) + 1) := ⟨fun k hk => by
          obtain ⟨h1, h2⟩ := got_less hv k hk
          refine ⟨h1, ?_⟩
          rw [lacking_total (got_valid hv h1), lacking_total hv, ← got_same hv, h2]⟩
        have HPB : As (∀ (P : List Piece), okPieces P → ∀ (W : World) (A : Option Addr) (c : Nat) (ok : Nat → Prop), Row kPiece W ok A (lackingP (gotG g P) list []).length (lackingP (gotG g P) list []) → Calls Try.prog 30 #[.slice A (lackingP (gotG g P) list []).length c] W fun e w' => e = .returned (.int .i64 (totalP (lackingP (gotG g P) list []))) ∧ W = w') := ⟨fun P hP W A c ok hr => by
          obtain ⟨h1, h2⟩ := lackingP_bd (devs := []) (got_valid hv hP)
          exact total_any A _ c ok _ W hr h1 (Nat.le_trans h2 (by show g.needs.length ≤ 1000; omega))⟩
        have HTL : As (0 ≤ totalP (lackingP g list devs) ∧ totalP (lackingP g list devs) ≤ 1000000) := ⟨by
          obtain ⟨h1, h2⟩ := lackingP_bd (devs := devs) hv
          have := totalP_bd _ h1 _ (Nat.le_refl _)
          rw [List.take_length] at this
          omega⟩
        clear hpl hf hv
        generalize hFq : fetchesP g list devs = F at *
        generalize lackingP g list devs = L at *
        clear hFq
        go_enter Try.func7, Try.ntmps7
        go_upto_region 1 with (fail)
        rw [← HW0.o]
        go_upto_region 7 with (first
          | (go_at_call 10; refine (FEW.o _ r0).mono ?_; rintro e w1 ⟨rfl, h1, h01⟩; obtain ⟨a0, a1, a2, a3, a4, al⟩ := LC.o.box w1 h1)
          | (go_at_call 19; refine (FET.o _ h1).mono ?_; rintro e w2 ⟨Af, cf, rfl, hrf, h2, h12⟩; obtain ⟨a0, a1, a2, a3, a4, al⟩ := LC.o.box w2 h2))
        have HRF := As.mk hrf
        have H2 := As.mk h2
        obtain ⟨W3, hW3⟩ : ∃ W3 : World, W3 = w2.alloc (.cells #[.slice A1 g.needs.length c1, .int .i64 g.thr, .bool g.index, .slice A2 g.pieces.length c2, .slice A3 g.shares.length c3] 26) := ⟨_, rfl⟩
        have hs3 : W3.heap.size = w2.heap.size + 1 := by rw [hW3]; simp
        have HB3 : As (Below w2.heap.size w2 W3) := ⟨by rw [hW3]; exact (Below.refl _ _).alloc (Nat.le_refl _) _⟩
        have HX3 : As (W3.heap[w2.heap.size]? = some (.cells #[.slice A1 g.needs.length c1, .int .i64 g.thr, .bool g.index, .slice A2 g.pieces.length c2, .slice A3 g.shares.length c3] 26 (0, 0))) := ⟨by rw [hW3]; exact heap_alloc_new w2 _⟩
        rw [← hW3]
        have h3 := bthen h2 HB3.o (Nat.le_refl _)
        have hP3 := (LC.o.gg W3 h3).p
        clear a0 a1 a2 a3 a4 al FET hrf h12 h01
        obtain ⟨b0, b1, b2, b3, b4, bl⟩ := LC.o.box W3 h3
        have HE3 := As.mk (Own.empty kPiece 52 W3 (w2.heap.size + 1) (by omega))
        have HP3 : As (Row kPiece (W3.alloc (.cells #[] 52)) (fun k => True ∧ Value.ownBlock (.slice (some ⟨W3.heap.size, 0, none⟩) 0 0) ≠ some k) A2 g.pieces.length g.pieces) := ⟨(hP3.below ((Below.refl _ _).alloc (Nat.le_refl _) _)).mono fun k hk => ⟨trivial, fun e => by simp [Value.ownBlock] at e; omega⟩⟩
        have HS3 : As (w2.heap.size + 1 ≤ (W3.alloc (.cells #[] 52)).heap.size) := ⟨by simp; omega⟩
        have HX3' : As ((W3.alloc (.cells #[] 52)).heap[w2.heap.size]? = some (.cells #[.slice A1 g.needs.length c1, .int .i64 g.thr, .bool g.index, .slice A2 g.pieces.length c2, .slice A3 g.shares.length c3] 26 (0, 0))) := ⟨(((Below.refl W3.heap.size W3).alloc (Nat.le_refl _) _).block _ (by omega)).trans HX3.o⟩
        have HB3' : As (Below w2.heap.size w2 (W3.alloc (.cells #[] 52))) := ⟨bthen HB3.o ((Below.refl W3.heap.size W3).alloc (Nat.le_refl _) _) (Nat.le_refl _)⟩
        have HSS := As.mk hs3
        clear hP3 hW3 h3 hs3
        go_upto_region 8 with (at_builtin; refine app_row kPiece (w2.heap.size + 1) rfl (.tmp 47) (.tmp 49) 23 (.agg #[.string ByteArray.empty, .int .i64 0]) 24 rfl Try.underlying23 info_piece52 rfl (by decide) (.slice (some ⟨W3.heap.size, 0, none⟩) 0 0) [] g.pieces A2 g.pieces.length c2 rfl rfl HE3.o HP3.o HS3.o (by simp; omega) (by simp; omega) ?_; intro v4 w4 HO4 hg4 hat4; rw [List.nil_append] at HO4; obtain ⟨A7, c7, rfl, _, _⟩ := HO4.shape; have bx4 := (hg4.block w2.heap.size (blk_lt HX3'.o) (fun e => by have h9 := HSS.o; simp [Value.ownBlock] at e; omega)).trans HX3'.o; have fz4 : w4.frozen? ⟨w2.heap.size, 3, none⟩ = false := blk_frozen bx4; have cz4 : w4.cell? ⟨w2.heap.size, 3, none⟩ = some (.slice A2 g.pieces.length c2) := (cell_of_row _ _ 3 _ _ _ bx4).trans rfl)
        have HV5 : As (HV w2 g A1 c1 A3 c3 g.pieces (.slice A7 g.pieces.length c7) (w4.setCell ⟨w2.heap.size, 3, none⟩ (.slice A7 g.pieces.length c7))) := ⟨HV.put bx4 HO4 (HB3'.o.trans (HE3.o.base_le hg4 (Nat.le_succ _) HS3.o))⟩
        obtain ⟨W5, hW5⟩ : ∃ W5 : World, W5 = w4.setCell ⟨w2.heap.size, 3, none⟩ (.slice A7 g.pieces.length c7) := ⟨_, rfl⟩
        rw [← hW5] at HV5 ⊢
        clear hW5 bx4 fz4 cz4 HO4 hg4 hat4 HE3 HP3 HS3 HX3' HB3' HX3 HB3 HSS b0 b1 b2 b3 b4 bl
        have hFm := HRF.o.2.1
        go_wp2
        go_loopw [10] (fun i' wr => ∃ (k : Nat) (v : Value), k ≤ F.length ∧ i' = .int .i64 k ∧ As (HV w2 g A1 c1 A3 c3 (g.pieces ++ (F.take k).map (·.2)) v wr)) (fun i' _ => F.length - (intOf i').toNat)
        case atStart => exact ⟨0, _, Nat.zero_le _, rfl, ⟨by simpa using HV5.o⟩⟩
        case round =>
          obtain ⟨k, v, hk, rfl, HF⟩ := hrel
          by_cases hlt : k < F.length
          · have HT : As (g.pieces ++ (F.take (k + 1)).map (·.2) = (g.pieces ++ (F.take k).map (·.2)) ++ [(fg F k).2]) := ⟨by
              rw [List.take_succ_eq_append_getElem hlt, List.map_append, List.append_assoc]
              simp [fg, List.getD_eq_getElem?_getD, List.getElem?_eq_getElem hlt]⟩
            have hql : (g.pieces ++ (F.take k).map (·.2)).length ≤ g.pieces.length + k := by simp; omega
            obtain ⟨ad, rfl, hadb, _, q0, q1, q2⟩ := rowFetch (HRF.o.below HF.o.bel) k hlt
            have q2' : wr.cell? ⟨(ad.add (k * 3)).block, (ad.add (k * 3)).off + 1 + 1, none⟩ = some (.int .i64 (fg F k).2.2) := q2
            generalize g.pieces ++ (F.take k).map (·.2) = P at *
            generalize fg F k = f at *
            obtain ⟨fd, fs, fi⟩ := f
            simp only at q0 q1 q2 q2' HT
            have hb0 : w2.heap.size < wr.heap.size := blk_lt HF.o.bx
            have by0 : wr.cell? ⟨w2.heap.size, 3, none⟩ = some v := (cell_of_row _ _ 3 _ _ _ HF.o.bx).trans rfl
            have fz : wr.frozen? ⟨w2.heap.size, 3, none⟩ = false := blk_frozen HF.o.bx
            have HOD := As.mk (HF.o.below (Below.refl _ _).drew).oh
            have hl3 : w2.heap.size + 1 ≤ wr.heap.size := hb0
            have hk1 : (k : Int) < (F.length : Int) := by omega
            obtain ⟨Av, cv, ev, _, _⟩ := HF.o.oh.shape
            subst ev
            go_wp2
            go_region_law (refine step_app_one kPiece (w2.heap.size + 1) rfl (.tmp 59) (.tmp 65) 23 (.agg #[.string ByteArray.empty, .int .i64 0]) 24 rfl Try.underlying23 info_piece52 rfl (by decide) (.slice Av P.length cv) P (fs, fi) [.string fs, .int .i64 fi] (by simp [Act.eval, Act.put]) (by simp [Act.eval, Act.put]) HOD.o (kPiece_mk _ _ (fs, fi)) hl3 (by omega) (by omega) ?_
                           intro v6 w6 HO6 hg6 hat6
                           obtain ⟨A6, c6, ev6, _, _⟩ := HO6.shape
                           rw [List.length_append, List.length_singleton] at ev6
                           subst ev6
                           have bx6 := (hg6.block w2.heap.size hb0 (fun e => by have := (HOD.o.lt _ e.symm).1; omega)).trans HF.o.bx
                           have fz6 : w6.frozen? ⟨w2.heap.size, 3, none⟩ = false := blk_frozen bx6
                           have cz6 : w6.cell? ⟨w2.heap.size, 3, none⟩ = some (.slice Av P.length cv) := (cell_of_row _ _ 3 _ _ _ bx6).trans rfl)
            all_goals
              have HV6 : As (HV w2 g A1 c1 A3 c3 (P ++ [(fs, fi)]) (.slice A6 (P.length + 1) c6) (w6.setCell ⟨w2.heap.size, 3, none⟩ (.slice A6 (P.length + 1) c6))) := ⟨HV.put bx6 HO6 (HF.o.bel.drew.trans (HOD.o.base_le hg6 (Nat.le_succ _) hl3))⟩
              clear bx6 HO6 hg6 hat6 HOD
              go_wp2
              go_roundw
              case rel =>
                refine ⟨k + 1, .slice A6 (P.length + 1) c6, by omega, by go_num, ⟨?_⟩⟩
                rw [HT.o]
                exact HV6.o
              case measure => simp [intOf]; omega
          · have e : k = F.length := by omega
            subst e
            rw [List.take_length] at HF
            have hpl : (g.pieces ++ F.map (·.2)).length = g.pieces.length + F.length := by simp
            have HPL := As.mk hpl
            have hpn : (g.pieces ++ F.map (·.2)).length ≤ 2000000 := by omega
            have hbs : w2.heap.size < wr.heap.size := blk_lt HF.o.bx
            clear HV5 hpl HRF
            generalize g.pieces ++ F.map (·.2) = P at *
            have HU : As (Below W0.heap.size W0 wr) := ⟨bthen H2.o HF.o.bel (Nat.le_refl _)⟩
            have LCA : As (∀ (W : World) (Av : Option Addr) (cv : Nat), Below W0.heap.size W0 W → Row kPiece W (fun k => k < W.heap.size) Av P.length P → P.length ≤ cv → Calls Try.prog 29 #[.agg #[.slice A1 g.needs.length c1, .int .i64 g.thr, .bool g.index, .slice Av P.length cv, .slice A3 g.shares.length c3], .slice A4 list.length c4, .slice none 0 0] W fun e w' => ∃ A c n b, e = .returned (.tuple #[.slice A L.length c, .int .i64 n, .bool b, .int .i64 0]) ∧ Row kPiece w' (fun k => k < w'.heap.size) A L.length L ∧ Below W0.heap.size W0 w' ∧ Below W.heap.size W w') := ⟨fun W Av cv hW hR hc => by
              have := LCK.o W P Av cv hW HOK.o hR hc
              rwa [HSM.o] at this⟩
            have TOA : As (∀ (W : World) (A : Option Addr) (c : Nat) (ok : Nat → Prop), Row kPiece W ok A L.length L → Calls Try.prog 30 #[.slice A L.length c] W fun e w' => e = .returned (.int .i64 (totalP L)) ∧ W = w') := ⟨fun W A c ok hr => by
              have := HPB.o P HOK.o W A c ok (by rw [HSM.o]; exact hr)
              rwa [HSM.o] at this⟩
            obtain ⟨Av, cv, ev, hcv, hrv⟩ := HF.o.oh.shape
            subst ev
            have HRV : As (Row kPiece wr (fun k => k < wr.heap.size) Av P.length P) := ⟨hrv⟩
            have HCV := As.mk hcv
            clear hrv hcv HSM
            have y0 : wr.cell? ⟨w2.heap.size, 0, none⟩ = some (.slice A1 g.needs.length c1) := (cell_of_row _ _ 0 _ _ _ HF.o.bx).trans rfl
            have y1 : wr.cell? ⟨w2.heap.size, 1, none⟩ = some (.int .i64 g.thr) := (cell_of_row _ _ 1 _ _ _ HF.o.bx).trans rfl
            have y2 : wr.cell? ⟨w2.heap.size, 2, none⟩ = some (.bool g.index) := (cell_of_row _ _ 2 _ _ _ HF.o.bx).trans rfl
            have y3 : wr.cell? ⟨w2.heap.size, 3, none⟩ = some (.slice Av P.length cv) := (cell_of_row _ _ 3 _ _ _ HF.o.bx).trans rfl
            have y4 : wr.cell? ⟨w2.heap.size, 4, none⟩ = some (.slice A3 g.shares.length c3) := (cell_of_row _ _ 4 _ _ _ HF.o.bx).trans rfl
            obtain ⟨a0, a1, a2, a3, a4, al⟩ := LC.o.box wr HU.o
            go_upto_region 13 with (go_at_call 29; refine (LCA.o _ _ _ HU.o HRV.o HCV.o).mono ?_; rintro e w6 ⟨Aa, ca, na, ba, rfl, hra, h6, hb6⟩; obtain ⟨a0, a1, a2, a3, a4, al⟩ := LC.o.box w6 h6)
            have HF6 := As.mk (HF.o.below hb6)
            go_upto_region 14 with (go_at_call 29; refine (LCD.o _ h6).mono ?_; rintro e w7 ⟨Ab, cb, nb, bb, rfl, hrb, h7, hb7⟩)
            have HF7 := As.mk (HF6.o.below hb7)
            have HRA := As.mk (hra.below hb7)
            have HRB := As.mk hrb
            have H7 := As.mk h7
            have dL : (L.length != L.length) = false := by simp
            have hLm := hra.2.1
            clear a0 a1 a2 a3 a4 al y0 y1 y2 y3 y4 hra hrb h6 hb6 h7 hb7 HF6 HF HU LCA LCD HRV
            go_wp2
            go_loopw [19] (fun i' wz => ∃ k : Nat, k ≤ L.length ∧ i' = .int .i64 k ∧ As (Below w7.heap.size w7 wz)) (fun i' _ => L.length - (intOf i').toNat)
            case atStart => exact ⟨0, Nat.zero_le _, rfl, ⟨Below.refl _ _⟩⟩
            case round =>
              obtain ⟨k, hk, rfl, HB⟩ := hrel
              by_cases hlt : k < L.length
              · obtain ⟨ad, e1, _, _, q0, q1⟩ := rowPiece (HRA.o.below HB.o) k hlt
                obtain ⟨ad', e2, _, _, s0, s1⟩ := rowPiece (HRB.o.below HB.o) k hlt
                subst e1
                subst e2
                have hk1 : (k : Int) < (L.length : Int) := by omega
                have z2 : ((pg L k).1.toList == (pg L k).1.toList) = true := beq_self_eq_true _
                have z3 : ((pg L k).2 == (pg L k).2) = true := beq_self_eq_true _
                generalize pg L k = f at *
                go_wp2
                go_quiet (fail)
                go_wp2
                go_roundw
                case rel => exact ⟨k + 1, by omega, by go_num, ⟨below_drewN HB.o _⟩⟩
                case measure => simp [intOf]; omega
              · have e : k = L.length := by omega
                subst e
                have HF8 := As.mk (HF7.o.below HB.o)
                have HRA8 := As.mk (HRA.o.below HB.o)
                have H8 := As.mk (bthen H7.o HB.o (Nat.le_refl _))
                clear HF7 HRA HRB H7 HB
                obtain ⟨wz, rfl⟩ : ∃ wz : World, wz = wr := ⟨_, rfl⟩
                go_wp2
                go_loopw [20] (fun i' wy => ∃ k : Nat, k ≤ F.length ∧ i' = .int .i64 k ∧ As (Below wz.heap.size wz wy)) (fun i' _ => F.length - (intOf i').toNat)
                case atStart => exact ⟨0, Nat.zero_le _, rfl, ⟨Below.refl _ _⟩⟩
                case round =>
                  obtain ⟨k, hk, rfl, HB⟩ := hrel
                  obtain ⟨wy, rfl⟩ : ∃ wy : World, wy = wr := ⟨_, rfl⟩
                  have HU : As (Below W0.heap.size W0 wy) := ⟨bthen H8.o HB.o (Nat.le_refl _)⟩
                  by_cases hlt : k < F.length
                  · have hk1 : (k : Int) < (F.length : Int) := by omega
                    have HF9 := As.mk (HF8.o.below HB.o)
                    have HRA9 := As.mk (HRA8.o.below HB.o)
                    have y0 : wy.cell? ⟨w2.heap.size, 0, none⟩ = some (.slice A1 g.needs.length c1) := (cell_of_row _ _ 0 _ _ _ HF9.o.bx).trans rfl
                    have y1 : wy.cell? ⟨w2.heap.size, 1, none⟩ = some (.int .i64 g.thr) := (cell_of_row _ _ 1 _ _ _ HF9.o.bx).trans rfl
                    have y2 : wy.cell? ⟨w2.heap.size, 2, none⟩ = some (.bool g.index) := (cell_of_row _ _ 2 _ _ _ HF9.o.bx).trans rfl
                    have y3 : wy.cell? ⟨w2.heap.size, 3, none⟩ = some (.slice Av P.length cv) := (cell_of_row _ _ 3 _ _ _ HF9.o.bx).trans rfl
                    have y4 : wy.cell? ⟨w2.heap.size, 4, none⟩ = some (.slice A3 g.shares.length c3) := (cell_of_row _ _ 4 _ _ _ HF9.o.bx).trans rfl
                    obtain ⟨a0, a1, a2, a3, a4, al⟩ := LC.o.box wy HU.o
                    obtain ⟨hok, hto⟩ := HLS.o k hlt
                    have HTO := As.mk hto
                    have HOKE := As.mk hok
                    have LCE := As.mk fun W Av cv hW hR hc => LCK.o W (P.eraseIdx (g.pieces.length + k)) Av cv hW HOKE.o hR hc
                    have TOE := As.mk (HPB.o (P.eraseIdx (g.pieces.length + k)) HOKE.o)
                    have hwb := blk_lt HF9.o.bx
                    go_upto_region 25 with (fail)
                    obtain ⟨Wb, hWb⟩ : ∃ Wb : World, Wb = wy.alloc (.cells #[.slice A1 g.needs.length c1, .int .i64 g.thr, .bool g.index, .slice Av P.length cv, .slice A3 g.shares.length c3] 26) := ⟨_, rfl⟩
                    have HSB : As (Wb.heap.size = wy.heap.size + 1) := ⟨by rw [hWb]; simp⟩
                    have HBB : As (Below wy.heap.size wy Wb) := ⟨by rw [hWb]; exact (Below.refl _ _).alloc (Nat.le_refl _) _⟩
                    have HXB : As (Wb.heap[wy.heap.size]? = some (.cells #[.slice A1 g.needs.length c1, .int .i64 g.thr, .bool g.index, .slice Av P.length cv, .slice A3 g.shares.length c3] 26 (0, 0))) := ⟨by rw [hWb]; exact heap_alloc_new wy _⟩
                    rw [← hWb]
                    clear y0 y1 y2 y3 y4 a0 a1 a2 a3 a4 al hWb
                    go_cut [] (fun wx => ∃ A c, As (wx.heap[wy.heap.size]? = some (.cells #[.slice A1 g.needs.length c1, .int .i64 g.thr, .bool g.index, .slice A (P.eraseIdx (g.pieces.length + k)).length c, .slice A3 g.shares.length c3] 26 (0, 0))) ∧ As (Row kPiece wx (fun k => k < wx.heap.size) A (P.eraseIdx (g.pieces.length + k)).length (P.eraseIdx (g.pieces.length + k))) ∧ As ((P.eraseIdx (g.pieces.length + k)).length ≤ c) ∧ As (Below wy.heap.size wy wx))
                    case first =>
                      obtain ⟨q, hq⟩ : ∃ q : Nat, q = g.pieces.length + k := ⟨_, rfl⟩
                      have HPL2 : P.length = g.pieces.length + F.length := HPL.o
                      have hqp : q + 1 ≤ P.length := by omega
                      have hcvv : P.length ≤ cv := HCV.o
                      have hqc : q ≤ cv := by omega
                      have hw1 : IntKind.i64.wrap ((g.pieces.length : Int) + (k : Int)) = (q : Int) := by rw [hq]; exact (IntWalk.i64_in _ (by omega)).trans (by omega)
                      have hw2 : IntKind.i64.wrap ((q : Int) + 1) = (q : Int) + 1 := IntWalk.i64_in _ (by omega)
                      obtain ⟨Ad, hcut0, hrow⟩ := cut_from (P := Try.prog) kPiece 23 52 _ Try.underlying23 info_piece52 Av P.length cv (q + 1) hqp hcvv
                      have hcutd : ∀ W : World, (Instr.slice 23 (.slice Av P.length cv) (some (.int .i64 ((q : Int) + 1))) none none).run Try.prog W = .ok (.slice Ad (P.length - (q + 1)) (cv - (q + 1))) W := hcut0
                      have HOW := As.mk (HF9.o.oh)
                      have HRW : As (Row kPiece wy (fun k => k < wy.heap.size) Av P.length P) := ⟨by obtain ⟨A', c', e', _, h'⟩ := HF9.o.oh.shape; injection e' with e1 _ _; rw [e1]; exact h'⟩
                      have HRT := As.mk ((HRW.o.take q (by omega)).below HBB.o)
                      have HRD := As.mk ((hrow _ _ _ HRW.o).below HBB.o)
                      have HQ := As.mk hq
                      have HPEq : As (P.take q ++ P.drop (q + 1) = P.eraseIdx (g.pieces.length + k)) := ⟨by rw [List.eraseIdx_eq_take_drop_succ, hq]⟩
                      have hPT : (P.take q).length = q := by rw [List.length_take]; omega
                      have HPT := As.mk hPT
                      have HPD : As ((P.take q).length + (P.length - (q + 1)) ≤ 2000000) := ⟨by omega⟩
                      have hgbw : w.heap.size < wy.heap.size := by have := (LC.o.box wy HU.o).2.2.2.2.2; exact this
                      have hb3 : wy.cell? ⟨w2.heap.size, 3, none⟩ = some (.slice Av P.length cv) := (cell_of_row _ _ 3 _ _ _ HF9.o.bx).trans rfl
                      have ha3 : wy.cell? ⟨w.heap.size, 3, none⟩ = some (.slice A2 g.pieces.length c2) := (LC.o.box wy HU.o).2.2.2.1
                      clear hcut0 hrow hq hPT HPL2
                      obtain ⟨PT, hPTe⟩ : ∃ PT, PT = P.take q := ⟨_, rfl⟩
                      rw [← hPTe] at HPEq HPT HPD HRT
                      refine wp_region_facts3 (fun i => if i = 21 then 400 else 120 + i) (fun a b => nd25.contains (a, b)) ?fnd (fun j => j == 21) (G25 Wb.heap.size wy.heap.size (fun v => #[.slice A1 g.needs.length c1, .int .i64 g.thr, .bool g.index, v, .slice A3 g.shares.length c3]) (val25 w2.heap.size w.heap.size wy.heap.size g.pieces.length k q Av P.length cv A2 c2 Ad) PT (P.eraseIdx (g.pieces.length + k))) (T25 Wb.heap.size wy.heap.size) (fun W => Below wy.heap.size Wb W ∧ Wb.heap.size ≤ W.heap.size ∧ ∃ x, W.heap[wy.heap.size]? = some (.cells #[.slice A1 g.needs.length c1, .int .i64 g.thr, .bool g.index, x, .slice A3 g.shares.length c3] 26 (0, 0))) (by kernel_rfl) (by kernel_rfl) ⟨(Below.refl _ _).drew, Nat.le_refl _, _, HXB.o⟩ ?fI ?fG ?floc ?finj ?fstep ?frest
                      case fnd =>
                        intro i j hi hn
                        have hi : i < 22 := hi
                        have hm : (i, j) ∈ nd25 := by simpa using hn
                        simp only [nd25, List.mem_cons, List.not_mem_nil, or_false, Prod.mk.injEq] at hm
                        rcases hm with ⟨rfl, rfl⟩ | ⟨rfl, rfl⟩ | ⟨rfl, rfl⟩ | ⟨rfl, rfl⟩ | ⟨rfl, rfl⟩ | ⟨rfl, rfl⟩ | ⟨rfl, rfl⟩ | ⟨rfl, rfl⟩ | ⟨rfl, rfl⟩ | ⟨rfl, rfl⟩ | ⟨rfl, rfl⟩ | ⟨rfl, rfl⟩ | ⟨rfl, rfl⟩ | ⟨rfl, rfl⟩ | ⟨rfl, rfl⟩ | ⟨rfl, rfl⟩ | ⟨rfl, rfl⟩ | ⟨rfl, rfl⟩ | ⟨rfl, rfl⟩ | ⟨rfl, rfl⟩ | ⟨rfl, rfl⟩ <;> (show depB _ _ _ = true; kernel_rfl)
                      case fI =>
                        intro i u u' hT ⟨hI, hs, x, hx⟩
                        unfold T25 at hT
                        split at hT
                        · obtain ⟨v, rfl⟩ := hT
                          exact ⟨hI.setCell (Nat.le_refl _) v, by simpa [World.setCell] using hs, v, blk_set hx v⟩
                        · have hbl : Below Wb.heap.size u u' := by
                            split at hT
                            · exact hT.below hs
                            · exact hT.mono hs
                          exact ⟨hI.trans (hbl.mono (by have := HSB.o; omega)), Nat.le_trans hs hbl.size, x, (hbl.block _ (by have := HSB.o; omega)).trans hx⟩
                      case fG =>
                        intro i j v u u' hne ⟨L', hLj, hLi, hL⟩ hlive hT h
                        have hl19 : L' 21 = true → L' 19 = true := fun h => hL 21 19 (by decide) h (by kernel_rfl)
                        have hl9 : L' 19 = true → L' 9 = true := fun h => hL 19 9 (by decide) h (by kernel_rfl)
                        refine G25.keep (by have := HSB.o; omega) hne ?_ ?_ ?_ ?_ hT h
                        · rintro rfl hi9
                          rcases hlive with h | ⟨k', hk, hk2, hk4, hk3⟩
                          · exact absurd h (by decide)
                          · have e9 : k' = 9 := (by decide : ∀ k, k < 22 → nd25.contains (k, 0) = true → k = 9) k' hk hk3
                            subst e9
                            rcases hi9 with rfl | rfl
                            · exact hk2 rfl
                            · exact absurd hk4 (by rw [Bool.not_eq_false]; kernel_rfl)
                        · rintro rfl rfl
                          rcases hlive with h | ⟨k', hk, hk2, hk4, hk3⟩
                          · exact absurd h (by decide)
                          · exact hk2 ((by decide : ∀ k, k < 22 → nd25.contains (k, 9) = true → k = 19) k' hk hk3)
                        · rintro rfl rfl
                          have := hl9 hLj
                          rw [hLi] at this
                          cases this
                        · rintro rfl hi9
                          rcases hi9 with rfl | rfl
                          · have := hl9 (hl19 hLj)
                            rw [hLi] at this
                            cases this
                          · have := hl19 hLj
                            rw [hLi] at this
                            cases this
                      case floc =>
                        intro j v v' u h hg
                        exact G25.same (h j (.inl rfl)) hg
                      case finj =>
                        intro i j hi hj h
                        have hi : i < 22 := hi
                        have hj : j < 22 := hj
                        have h : (if i = 21 then 400 else 120 + i) = (if j = 21 then 400 else 120 + j) := h
                        split at h <;> split at h <;> omega
                      case fstep =>
                        intro i o ho a' w' hF ⟨hI, hs, x, hx⟩ hd
                        have hi : i < 22 := (List.getElem?_eq_some_iff.1 ho).1
                        have hsz : a'.tmps.size = 160 := hF.size
                        have far : ∀ s, s < 120 → ∀ j, j < 22 → (if j = 21 then 400 else 120 + j) ≠ s := fun s h1 j hj => by split <;> omega
                        have hIy : Below wy.heap.size wy w' := HBB.o.trans hI
                        have q0 : w'.cell? ⟨w2.heap.size, 3, none⟩ = some (.slice Av P.length cv) := (hIy.cell (p := ⟨w2.heap.size, 3, none⟩) hwb).trans hb3
                        have q3 : w'.cell? ⟨w.heap.size, 3, none⟩ = some (.slice A2 g.pieces.length c2) := (hIy.cell (p := ⟨w.heap.size, 3, none⟩) hgbw).trans ha3
                        rcases (show i = 0 ∨ i = 1 ∨ i = 2 ∨ i = 3 ∨ i = 4 ∨ i = 5 ∨ i = 6 ∨ i = 7 ∨ i = 8 ∨ i = 9 ∨ i = 10 ∨ i = 11 ∨ i = 12 ∨ i = 13 ∨ i = 14 ∨ i = 15 ∨ i = 16 ∨ i = 17 ∨ i = 18 ∨ i = 19 ∨ i = 20 ∨ i = 21 by omega) with rfl | rfl | rfl | rfl | rfl | rfl | rfl | rfl | rfl | rfl | rfl | rfl | rfl | rfl | rfl | rfl | rfl | rfl | rfl | rfl | rfl | rfl
                        all_goals (simp only [List.getElem?_cons_zero, List.getElem?_cons_succ, Option.some.injEq] at ho; subst ho)
                        · skip
                          refine ⟨unguarded rfl, Yields.run rfl (by rw [hsz]; decide) (w' := w'.alloc (.cells #[] 52)) (v := .slice (some ⟨w'.heap.size, 0, none⟩) 0 0) ?_ ⟨t25_same (by decide) (by decide) ((Below.refl _ _).alloc (Nat.le_refl _) _), w'.heap.size, rfl, hs, heap_alloc_new w' _⟩⟩
                          first | (go_simp; done) | (go_simp; rfl)
                        · skip
                          have e9 : a'.eval (.tmp 9) = .pointer (some ⟨w2.heap.size, 0, none⟩) := hF.far 9 (far 9 (by decide))
                          refine ⟨unguarded rfl, Yields.run rfl (by rw [hsz]; decide) (w' := w') (v := .pointer (some ⟨w2.heap.size, 3, none⟩)) ?_ ⟨t25_same (by decide) (by decide) (Below.refl _ _), rfl⟩⟩
                          obtain ⟨E, hE⟩ : ∃ E, E = a'.eval := ⟨_, rfl⟩
                          have ec : ∀ v, E (Operand.const v) = v := by rw [hE]; exact fun v => rfl
                          rw [← hE] at e9 ⊢
                          clear hE
                          first | (go_simp; done) | (go_simp; rfl)
                        · skip
                          have e121 : a'.eval (.tmp 121) = .pointer (some ⟨w2.heap.size, 3, none⟩) := hd 1 (by decide)
                          refine ⟨unguarded rfl, Yields.run rfl (by rw [hsz]; decide) (w' := w') (v := .slice Av P.length cv) ?_ ⟨t25_same (by decide) (by decide) (Below.refl _ _), rfl⟩⟩
                          obtain ⟨E, hE⟩ : ∃ E, E = a'.eval := ⟨_, rfl⟩
                          have ec : ∀ v, E (Operand.const v) = v := by rw [hE]; exact fun v => rfl
                          rw [← hE] at e121 ⊢
                          clear hE
                          first | (go_simp; done) | (go_simp; rfl)
                        · skip
                          have e3 : a'.eval (.tmp 3) = .pointer (some ⟨w.heap.size, 0, none⟩) := hF.far 3 (far 3 (by decide))
                          refine ⟨unguarded rfl, Yields.run rfl (by rw [hsz]; decide) (w' := w') (v := .pointer (some ⟨w.heap.size, 3, none⟩)) ?_ ⟨t25_same (by decide) (by decide) (Below.refl _ _), rfl⟩⟩
                          obtain ⟨E, hE⟩ : ∃ E, E = a'.eval := ⟨_, rfl⟩
                          have ec : ∀ v, E (Operand.const v) = v := by rw [hE]; exact fun v => rfl
                          rw [← hE] at e3 ⊢
                          clear hE
                          first | (go_simp; done) | (go_simp; rfl)
                        · skip
                          have e123 : a'.eval (.tmp 123) = .pointer (some ⟨w.heap.size, 3, none⟩) := hd 3 (by decide)
                          refine ⟨unguarded rfl, Yields.run rfl (by rw [hsz]; decide) (w' := w') (v := .slice A2 g.pieces.length c2) ?_ ⟨t25_same (by decide) (by decide) (Below.refl _ _), rfl⟩⟩
                          obtain ⟨E, hE⟩ : ∃ E, E = a'.eval := ⟨_, rfl⟩
                          have ec : ∀ v, E (Operand.const v) = v := by rw [hE]; exact fun v => rfl
                          rw [← hE] at e123 ⊢
                          clear hE
                          first | (go_simp; done) | (go_simp; rfl)
                        · skip
                          have e124 : a'.eval (.tmp 124) = .slice A2 g.pieces.length c2 := hd 4 (by decide)
                          refine ⟨unguarded rfl, Yields.run rfl (by rw [hsz]; decide) (w' := w') (v := .int .i64 (g.pieces.length : Int)) ?_ ⟨t25_same (by decide) (by decide) (Below.refl _ _), rfl⟩⟩
                          obtain ⟨E, hE⟩ : ∃ E, E = a'.eval := ⟨_, rfl⟩
                          have ec : ∀ v, E (Operand.const v) = v := by rw [hE]; exact fun v => rfl
                          rw [← hE] at e124 ⊢
                          clear hE
                          first | (go_simp; done) | (go_simp; rfl)
                        · skip
                          have e20 : a'.eval (.tmp 20) = .int .i64 (k : Int) := hF.far 20 (far 20 (by decide))
                          refine ⟨unguarded rfl, Yields.run rfl (by rw [hsz]; decide) (w' := w') (v := .int .i64 (k : Int)) ?_ ⟨t25_same (by decide) (by decide) (Below.refl _ _), rfl⟩⟩
                          obtain ⟨E, hE⟩ : ∃ E, E = a'.eval := ⟨_, rfl⟩
                          have ec : ∀ v, E (Operand.const v) = v := by rw [hE]; exact fun v => rfl
                          rw [← hE] at e20 ⊢
                          clear hE
                          first | (go_simp; done) | (go_simp; rfl)
                        · skip
                          have e125 : a'.eval (.tmp 125) = .int .i64 (g.pieces.length : Int) := hd 5 (by decide)
                          have e126 : a'.eval (.tmp 126) = .int .i64 (k : Int) := hd 6 (by decide)
                          refine ⟨unguarded rfl, Yields.run rfl (by rw [hsz]; decide) (w' := w') (v := .int .i64 (q : Int)) ?_ ⟨t25_same (by decide) (by decide) (Below.refl _ _), rfl⟩⟩
                          obtain ⟨E, hE⟩ : ∃ E, E = a'.eval := ⟨_, rfl⟩
                          have ec : ∀ v, E (Operand.const v) = v := by rw [hE]; exact fun v => rfl
                          rw [← hE] at e125 e126 ⊢
                          clear hE
                          first | (go_simp; done) | (go_simp; rfl)
                        · skip
                          have e122 : a'.eval (.tmp 122) = .slice Av P.length cv := hd 2 (by decide)
                          have e127 : a'.eval (.tmp 127) = .int .i64 (q : Int) := hd 7 (by decide)
                          refine ⟨unguarded rfl, Yields.run rfl (by rw [hsz]; decide) (w' := w') (v := .slice Av q cv) ?_ ⟨t25_same (by decide) (by decide) (Below.refl _ _), rfl⟩⟩
                          obtain ⟨E, hE⟩ : ∃ E, E = a'.eval := ⟨_, rfl⟩
                          have ec : ∀ v, E (Operand.const v) = v := by rw [hE]; exact fun v => rfl
                          rw [← hE] at e122 e127 ⊢
                          clear hE
                          first | (go_simp; done) | (go_simp; rfl)
                        · skip
                          obtain ⟨X, e0, hX, hxx⟩ : ∃ X, a'.eval (.tmp 120) = .slice (some ⟨X, 0, none⟩) 0 0 ∧ Wb.heap.size ≤ X ∧ w'.heap[X]? = some (.cells #[] 52 (0, 0)) := hd 0 (by decide)
                          have e8 : a'.eval (.tmp 128) = .slice Av q cv := hd 8 (by decide)
                          refine ⟨unguarded rfl, .inl ⟨rfl, by rw [hsz]; decide, fun K hK => wp_app_flat flat_piece Wb.heap.size (.tmp 120) (.tmp 128) 23 (.agg #[.string ByteArray.empty, .int .i64 0]) 24 rfl Try.underlying23 info_piece52 rfl (by decide) _ [] PT Av q cv e0 e8 (IsEmp.own (t := 52) ⟨X, rfl, hX, hxx⟩ (fun _ => True)) (HRT.o.step fun j hj _ => hI.block j hj) hs (by have := HPT.o; simp; omega) (by have := HPT.o; simp; omega) fun v1 w1 HO hg hat => hK _ _ ⟨?_, ?_⟩⟩⟩
                          · show T25 Wb.heap.size wy.heap.size 9 w' w1
                            unfold T25
                            rw [if_neg (by decide), if_pos (.inl rfl)]
                            exact ⟨_, fun b e => by simp [Value.ownBlock] at e; omega, hg⟩
                          · rw [List.nil_append] at HO
                            obtain ⟨A9, c9, e9, _, _⟩ := HO.shape
                            subst e9
                            exact ⟨A9, c9, rfl, HO⟩
                        · skip
                          have e9 : a'.eval (.tmp 9) = .pointer (some ⟨w2.heap.size, 0, none⟩) := hF.far 9 (far 9 (by decide))
                          refine ⟨unguarded rfl, Yields.run rfl (by rw [hsz]; decide) (w' := w') (v := .pointer (some ⟨w2.heap.size, 3, none⟩)) ?_ ⟨t25_same (by decide) (by decide) (Below.refl _ _), rfl⟩⟩
                          obtain ⟨E, hE⟩ : ∃ E, E = a'.eval := ⟨_, rfl⟩
                          have ec : ∀ v, E (Operand.const v) = v := by rw [hE]; exact fun v => rfl
                          rw [← hE] at e9 ⊢
                          clear hE
                          first | (go_simp; done) | (go_simp; rfl)
                        · skip
                          have e130 : a'.eval (.tmp 130) = .pointer (some ⟨w2.heap.size, 3, none⟩) := hd 10 (by decide)
                          refine ⟨unguarded rfl, Yields.run rfl (by rw [hsz]; decide) (w' := w') (v := .slice Av P.length cv) ?_ ⟨t25_same (by decide) (by decide) (Below.refl _ _), rfl⟩⟩
                          obtain ⟨E, hE⟩ : ∃ E, E = a'.eval := ⟨_, rfl⟩
                          have ec : ∀ v, E (Operand.const v) = v := by rw [hE]; exact fun v => rfl
                          rw [← hE] at e130 ⊢
                          clear hE
                          first | (go_simp; done) | (go_simp; rfl)
                        · skip
                          have e3 : a'.eval (.tmp 3) = .pointer (some ⟨w.heap.size, 0, none⟩) := hF.far 3 (far 3 (by decide))
                          refine ⟨unguarded rfl, Yields.run rfl (by rw [hsz]; decide) (w' := w') (v := .pointer (some ⟨w.heap.size, 3, none⟩)) ?_ ⟨t25_same (by decide) (by decide) (Below.refl _ _), rfl⟩⟩
                          obtain ⟨E, hE⟩ : ∃ E, E = a'.eval := ⟨_, rfl⟩
                          have ec : ∀ v, E (Operand.const v) = v := by rw [hE]; exact fun v => rfl
                          rw [← hE] at e3 ⊢
                          clear hE
                          first | (go_simp; done) | (go_simp; rfl)
                        · skip
                          have e132 : a'.eval (.tmp 132) = .pointer (some ⟨w.heap.size, 3, none⟩) := hd 12 (by decide)
                          refine ⟨unguarded rfl, Yields.run rfl (by rw [hsz]; decide) (w' := w') (v := .slice A2 g.pieces.length c2) ?_ ⟨t25_same (by decide) (by decide) (Below.refl _ _), rfl⟩⟩
                          obtain ⟨E, hE⟩ : ∃ E, E = a'.eval := ⟨_, rfl⟩
                          have ec : ∀ v, E (Operand.const v) = v := by rw [hE]; exact fun v => rfl
                          rw [← hE] at e132 ⊢
                          clear hE
                          first | (go_simp; done) | (go_simp; rfl)
                        · skip
                          have e133 : a'.eval (.tmp 133) = .slice A2 g.pieces.length c2 := hd 13 (by decide)
                          refine ⟨unguarded rfl, Yields.run rfl (by rw [hsz]; decide) (w' := w') (v := .int .i64 (g.pieces.length : Int)) ?_ ⟨t25_same (by decide) (by decide) (Below.refl _ _), rfl⟩⟩
                          obtain ⟨E, hE⟩ : ∃ E, E = a'.eval := ⟨_, rfl⟩
                          have ec : ∀ v, E (Operand.const v) = v := by rw [hE]; exact fun v => rfl
                          rw [← hE] at e133 ⊢
                          clear hE
                          first | (go_simp; done) | (go_simp; rfl)
                        · skip
                          have e20 : a'.eval (.tmp 20) = .int .i64 (k : Int) := hF.far 20 (far 20 (by decide))
                          refine ⟨unguarded rfl, Yields.run rfl (by rw [hsz]; decide) (w' := w') (v := .int .i64 (k : Int)) ?_ ⟨t25_same (by decide) (by decide) (Below.refl _ _), rfl⟩⟩
                          obtain ⟨E, hE⟩ : ∃ E, E = a'.eval := ⟨_, rfl⟩
                          have ec : ∀ v, E (Operand.const v) = v := by rw [hE]; exact fun v => rfl
                          rw [← hE] at e20 ⊢
                          clear hE
                          first | (go_simp; done) | (go_simp; rfl)
                        · skip
                          have e134 : a'.eval (.tmp 134) = .int .i64 (g.pieces.length : Int) := hd 14 (by decide)
                          have e135 : a'.eval (.tmp 135) = .int .i64 (k : Int) := hd 15 (by decide)
                          refine ⟨unguarded rfl, Yields.run rfl (by rw [hsz]; decide) (w' := w') (v := .int .i64 (q : Int)) ?_ ⟨t25_same (by decide) (by decide) (Below.refl _ _), rfl⟩⟩
                          obtain ⟨E, hE⟩ : ∃ E, E = a'.eval := ⟨_, rfl⟩
                          have ec : ∀ v, E (Operand.const v) = v := by rw [hE]; exact fun v => rfl
                          rw [← hE] at e134 e135 ⊢
                          clear hE
                          first | (go_simp; done) | (go_simp; rfl)
                        · skip
                          have e136 : a'.eval (.tmp 136) = .int .i64 (q : Int) := hd 16 (by decide)
                          refine ⟨unguarded rfl, Yields.run rfl (by rw [hsz]; decide) (w' := w') (v := .int .i64 ((q : Int) + 1)) ?_ ⟨t25_same (by decide) (by decide) (Below.refl _ _), rfl⟩⟩
                          obtain ⟨E, hE⟩ : ∃ E, E = a'.eval := ⟨_, rfl⟩
                          have ec : ∀ v, E (Operand.const v) = v := by rw [hE]; exact fun v => rfl
                          rw [← hE] at e136 ⊢
                          clear hE
                          first | (go_simp; done) | (go_simp; rfl)
                        · skip
                          have e131 : a'.eval (.tmp 131) = .slice Av P.length cv := hd 11 (by decide)
                          have e137 : a'.eval (.tmp 137) = .int .i64 ((q : Int) + 1) := hd 17 (by decide)
                          refine ⟨unguarded rfl, Yields.run rfl (by rw [hsz]; decide) (w' := w') (v := .slice Ad (P.length - (q + 1)) (cv - (q + 1))) ?_ ⟨t25_same (by decide) (by decide) (Below.refl _ _), rfl⟩⟩
                          obtain ⟨E, hE⟩ : ∃ E, E = a'.eval := ⟨_, rfl⟩
                          have ec : ∀ v, E (Operand.const v) = v := by rw [hE]; exact fun v => rfl
                          rw [← hE] at e131 e137 ⊢
                          clear hE
                          first | (go_simp; done) | (go_simp; rfl)
                        · skip
                          obtain ⟨A9, c9, e9, ho9⟩ : ∃ A c, a'.eval (.tmp 129) = .slice A PT.length c ∧ Own kPiece 52 w' Wb.heap.size (.slice A PT.length c) PT := hd 9 (by decide)
                          have e18 : a'.eval (.tmp 138) = .slice Ad (P.length - (q + 1)) (cv - (q + 1)) := hd 18 (by decide)
                          refine ⟨unguarded rfl, .inl ⟨rfl, by rw [hsz]; decide, fun K hK => wp_app_flat flat_piece Wb.heap.size (.tmp 129) (.tmp 138) 23 (.agg #[.string ByteArray.empty, .int .i64 0]) 24 rfl Try.underlying23 info_piece52 rfl (by decide) _ PT (P.drop (q + 1)) Ad (P.length - (q + 1)) (cv - (q + 1)) e9 e18 ho9 (HRD.o.step fun j hj _ => hI.block j hj) hs (by have := HPD.o; omega) (by have := HPD.o; omega) fun v1 w1 HO hg hat => hK _ _ ⟨?_, ?_⟩⟩⟩
                          · show T25 Wb.heap.size wy.heap.size 19 w' w1
                            unfold T25
                            rw [if_neg (by decide), if_pos (.inr rfl)]
                            exact ⟨_, fun b e => (ho9.lt b e).1, hg⟩
                          · rw [HPEq.o] at HO
                            obtain ⟨A7, c7, e7, _, _⟩ := HO.shape
                            subst e7
                            exact ⟨A7, c7, rfl, HO⟩
                        · skip
                          have e21 : a'.eval (.tmp 21) = .pointer (some ⟨wy.heap.size, 0, none⟩) := hF.far 21 (far 21 (by decide))
                          refine ⟨unguarded rfl, Yields.run rfl (by rw [hsz]; decide) (w' := w') (v := .pointer (some ⟨wy.heap.size, 3, none⟩)) ?_ ⟨t25_same (by decide) (by decide) (Below.refl _ _), rfl⟩⟩
                          obtain ⟨E, hE⟩ : ∃ E, E = a'.eval := ⟨_, rfl⟩
                          have ec : ∀ v, E (Operand.const v) = v := by rw [hE]; exact fun v => rfl
                          rw [← hE] at e21 ⊢
                          clear hE
                          first | (go_simp; done) | (go_simp; rfl)
                        · skip
                          obtain ⟨A9, c9, e19, ho9⟩ : ∃ A c, a'.eval (.tmp 139) = .slice A (P.eraseIdx (g.pieces.length + k)).length c ∧ Own kPiece 52 w' Wb.heap.size (.slice A (P.eraseIdx (g.pieces.length + k)).length c) (P.eraseIdx (g.pieces.length + k)) := hd 19 (by decide)
                          have e20 : a'.eval (.tmp 140) = .pointer (some ⟨wy.heap.size, 3, none⟩) := hd 20 (by decide)
                          have fz : w'.frozen? ⟨wy.heap.size, 3, none⟩ = false := blk_frozen hx
                          have y3 : w'.cell? ⟨wy.heap.size, 3, none⟩ = some x := (cell_of_row _ _ 3 _ _ _ hx).trans rfl
                          refine ⟨unguarded rfl, Yields.skip rfl (by rw [hsz]; decide) (w' := w'.setCell ⟨wy.heap.size, 3, none⟩ (.slice A9 (P.eraseIdx (g.pieces.length + k)).length c9)) ?_ ⟨?_, A9, c9, blk_set hx _, ho9.set_flat flat_piece (by show wy.heap.size < _; have := HSB.o; omega) _⟩⟩
                          · generalize (P.eraseIdx (g.pieces.length + k)).length = pn at *
                            obtain ⟨E, hE⟩ : ∃ E, E = a'.eval := ⟨_, rfl⟩
                            have ec : ∀ v, E (Operand.const v) = v := by rw [hE]; exact fun v => rfl
                            rw [← hE] at e19 e20 ⊢
                            clear hE
                            first | (go_simp; done) | (go_simp; rfl)
                          · show T25 _ _ 21 w' _
                            unfold T25
                            rw [if_pos rfl]
                            exact ⟨_, rfl⟩
                      case frest =>
                        intro a' w' hF ⟨hI, hs, _⟩ hout
                        obtain ⟨A9, c9, e9, ho9⟩ : ∃ A c, w'.heap[wy.heap.size]? = some (.cells #[.slice A1 g.needs.length c1, .int .i64 g.thr, .bool g.index, .slice A (P.eraseIdx (g.pieces.length + k)).length c, .slice A3 g.shares.length c3] 26 (0, 0)) ∧ Own kPiece 52 w' Wb.heap.size (.slice A (P.eraseIdx (g.pieces.length + k)).length c) (P.eraseIdx (g.pieces.length + k)) := hout 21 (by decide) rfl
                        rw [hF.lit [120, 121, 122, 123, 124, 125, 126, 127, 128, 129, 130, 131, 132, 133, 134, 135, 136, 137, 138, 139, 140, 400] (fun s hs j hj e => by have h := (by decide : ∀ j, j < 22 → ([120, 121, 122, 123, 124, 125, 126, 127, 128, 129, 130, 131, 132, 133, 134, 135, 136, 137, 138, 139, 140, 400] : List Nat).contains (if j = 21 then 400 else 120 + j) = true) j hj; rw [show (if j = 21 then 400 else 120 + j) = s from e, hs] at h; cases h)]
                        obtain ⟨ys, hys⟩ : ∃ ys : Nat → Value, ys = fun s => a'.tmps.getD s undef := ⟨_, rfl⟩
                        rw [← hys]
                        clear hys hF hout
                        simp only [mergeA, List.contains_cons, List.contains_nil, Nat.reduceBEq, Bool.or_false, Bool.or_true, Bool.false_or, Bool.true_or, Bool.false_eq_true, if_false, if_true, ite_false, ite_true, Nat.reduceAdd]
                        go_wp2_with fail
                        go_meet
                        obtain ⟨A8, c8, e8, hc8, hr8⟩ := ho9.shape
                        injection e8 with e81 _ e83
                        subst e81
                        subst e83
                        exact ⟨A9, c9, ⟨e9⟩, ⟨hr8.mono fun _ h => h⟩, ⟨hc8⟩, ⟨HBB.o.trans hI⟩⟩
                    case rest =>
                      obtain ⟨Ae, ce, HXe, HRe, HCe, HBe⟩ := hcut
                      generalize P.eraseIdx (g.pieces.length + k) = PE at *
                      have HUe : As (Below W0.heap.size W0 wc) := ⟨bthen HU.o HBe.o (Nat.le_refl _)⟩
                      have HRAe := As.mk (HRA9.o.below HBe.o)
                      have x0 : wc.cell? ⟨wy.heap.size, 0, none⟩ = some (.slice A1 g.needs.length c1) := (cell_of_row _ _ 0 _ _ _ HXe.o).trans rfl
                      have x1 : wc.cell? ⟨wy.heap.size, 1, none⟩ = some (.int .i64 g.thr) := (cell_of_row _ _ 1 _ _ _ HXe.o).trans rfl
                      have x2 : wc.cell? ⟨wy.heap.size, 2, none⟩ = some (.bool g.index) := (cell_of_row _ _ 2 _ _ _ HXe.o).trans rfl
                      have x3 : wc.cell? ⟨wy.heap.size, 3, none⟩ = some (.slice Ae PE.length ce) := (cell_of_row _ _ 3 _ _ _ HXe.o).trans rfl
                      have x4 : wc.cell? ⟨wy.heap.size, 4, none⟩ = some (.slice A3 g.shares.length c3) := (cell_of_row _ _ 4 _ _ _ HXe.o).trans rfl
                      have LCF := As.mk (LCE.o wc Ae ce HUe.o HRe.o HCe.o)
                      generalize lackingP (gotG g PE) list [] = LE at *
                      rw [HTO.o] at TOE
                      have TOE2 : As (∀ (W : World) (A : Option Addr) (c : Nat) (ok : Nat → Prop), Row kPiece W ok A LE.length LE → Calls Try.prog 30 #[.slice A LE.length c] W fun e w' => e = .returned (.int .i64 (totalP L + 1)) ∧ W = w') := TOE
                      have hT := HTL.o
                      generalize totalP L = T at *
                      have dW : IntKind.i64.wrap (T + 1) = T + 1 := IntWalk.i64_in _ (by omega)
                      have dE : ((T + 1) != (T + 1)) = false := by simp
                      clear hT TOE LCE HTO
                      go_upto_region 27 with (go_at_call 29; refine LCF.o.mono ?_; rintro e w9 ⟨Ac, cc, nc, bc, rfl, hrc, h9, hb9⟩)
                      have HRAf := As.mk (HRAe.o.below hb9)
                      have HRC := As.mk hrc
                      have HB9 := As.mk (bthen (bthen HB.o HBe.o (Nat.le_refl _)) hb9 (Nat.le_refl _))
                      clear x0 x1 x2 x3 x4 hrc hb9
                      go_wp2_with (first
                        | (go_at_call_of 30 Ac; refine (TOE2.o _ Ac cc _ HRC.o).mono ?_; rintro e w10 ⟨rfl, rfl⟩)
                        | (go_at_call 30; refine (TOA.o _ Aa ca _ HRAf.o).mono ?_; rintro e w11 ⟨rfl, rfl⟩))
                      go_roundw
                      case rel => exact ⟨k + 1, by omega, by go_num, HB9⟩
                      case measure => simp [intOf]; omega
                  · have e : k = F.length := by omega
                    subst e
                    have AW := As.mk (LC.o.awk wy HU.o)
                    go_wp2_with (go_at_call 11; refine AW.o.mono ?_; rintro e w9 ⟨rfl, h9, h9'⟩)
                    go_ret
                    exact ⟨rfl, LC.o.up _ h9⟩
      · have FET : As (∀ W : World, Below W0.heap.size W0 W → Calls Try.prog 19 #[.agg (goalCells g A1 c1 A2 c2 A3 c3), .slice A4 list.length c4, .slice A5 nd c5] W fun e w' => ∃ A c, e = .returned (.tuple #[.slice A (fetchesP g list devs).length c, .int .i64 1]) ∧ Below W0.heap.size W0 w' ∧ Below W.heap.size W w') := ⟨fun W hW =>
          (fetches_any g A1 c1 A2 c2 A3 c3 A4 c4 list A5 nd c5 devs W (LC.o.gg W hW) (LC.o.ll W hW) (row_up HD.o (LC.o.up W hW)) (by omega) hpl).mono fun e w' ⟨A, c, he, _, hr, hb⟩ => ⟨A, c, by rw [he, checkOf_no hv], bthen hW hb (Nat.le_refl _), hb⟩⟩
        generalize fetchesP g list devs = F at *
        clear hv hf hpl hgp hgn
        go_enter Try.func7, Try.ntmps7
        go_upto_region 1 with (fail)
        rw [← HW0.o]
        go_wp2_with (first
          | (go_at_call 10; refine (FEW.o _ r0).mono ?_; rintro e w1 ⟨rfl, h1, h01⟩; obtain ⟨a0, a1, a2, a3, a4, al⟩ := LC.o.box w1 h1)
          | (go_at_call 19; refine (FET.o _ h1).mono ?_; rintro e w2 ⟨Af, cf, rfl, h2, h12⟩)
          | (go_at_call 11; refine (LC.o.awk _ h2).mono ?_; rintro e w3 ⟨rfl, h3, _⟩))
        go_ret
        exact ⟨rfl, LC.o.up _ h3⟩
  · rw [decide_eq_false hf] at FEW
    clear hf hv
    go_enter Try.func7, Try.ntmps7
    go_upto_region 1 with (fail)
    rw [← HW0.o]
    go_wp2_with (first
      | (go_at_call 10; refine (FEW.o _ r0).mono ?_; rintro e w1 ⟨rfl, h1, h01⟩)
      | (go_at_call 11; refine (LC.o.awk _ h1).mono ?_; rintro e w2 ⟨rfl, h2, _⟩))
    go_ret
    exact ⟨rfl, LC.o.up _ h2⟩
end
end Go.Proofs.Ytlinhckgdfhppaa
