/- Plain data of layer 51, and what the specification says of them: no program here. -/
import Derived.Test.YtlinhckgdfhppaaK3
import Derived.Test.YtlinhckgdfhppaaProg
set_option linter.unusedSimpArgs false
set_option linter.unusedVariables false
namespace Go.Proofs.Ytlinhckgdfhppaa
open Go Go.Proofs.YtlinhckgdfhppaaK

abbrev Piece := ByteArray × Int
abbrev Need := ByteArray × Int
structure Hold where
  dev : Int
  pieces : List Piece
  shares : List Int
  index : Bool
structure Goal where
  needs : List Need
  thr : Int
  index : Bool
  pieces : List Piece
  shares : List Int

def pg (xs : List Piece) (k : Nat) : Piece := xs.getD k (ByteArray.empty, 0)
def hgt (xs : List Hold) (k : Nat) : Hold := xs.getD k ⟨0, [], [], false⟩
theorem pg_eq (xs : List Piece) (k : Nat) (h : k < xs.length) : pg xs k = xs[k] := by simp [pg, List.getD_eq_getElem?_getD, List.getElem?_eq_getElem h]
theorem hgt_eq (xs : List Hold) (k : Nat) (h : k < xs.length) : hgt xs k = xs[k] := by simp [hgt, List.getD_eq_getElem?_getD, List.getElem?_eq_getElem h]

/-- A stripe's piece is there, or is given by one of the first m holdings. -/
def thereTo (g : Goal) (list : List Hold) (devs : List Int) (p : Piece) (m : Nat) : Prop := p ∈ g.pieces ∨ ∃ h ∈ list.take m, h.dev ∈ devs ∧ p ∈ h.pieces
def there (g : Goal) (list : List Hold) (devs : List Int) (p : Piece) : Prop := p ∈ g.pieces ∨ ∃ h ∈ list, h.dev ∈ devs ∧ p ∈ h.pieces
instance (g : Goal) (list : List Hold) (devs : List Int) (p : Piece) : Decidable (there g list devs p) := by unfold there; infer_instance
theorem thereTo_all {g : Goal} {list : List Hold} {devs : List Int} {p : Piece} {m : Nat} (hm : list.length ≤ m) : thereTo g list devs p m ↔ there g list devs p := by
  unfold thereTo there
  rw [List.take_of_length_le hm]
theorem thereTo_zero {g : Goal} {list : List Hold} {devs : List Int} {p : Piece} : thereTo g list devs p 0 ↔ p ∈ g.pieces := by
  unfold thereTo
  simp
theorem thereTo_succ {g : Goal} {list : List Hold} {devs : List Int} {p : Piece} {m : Nat} (hm : m < list.length) : thereTo g list devs p (m + 1) ↔ thereTo g list devs p m ∨ ((hgt list m).dev ∈ devs ∧ p ∈ (hgt list m).pieces) := by
  unfold thereTo
  rw [List.take_succ_eq_append_getElem hm, ← hgt_eq list m hm]
  simp only [List.mem_append, List.mem_singleton, or_and_right, exists_or, exists_eq_left, or_assoc]
/-- How many of a stripe's pieces below k are there or given. -/
def cntTo (g : Goal) (list : List Hold) (devs : List Int) (s : ByteArray) : Nat → Nat
  | 0 => 0
  | k + 1 => cntTo g list devs s k + if there g list devs (s, (k : Int)) then 1 else 0
/-- d less c, not below 0. -/
def subN (d : Int) (c : Nat) : Int := max 0 (d - c)
theorem subN_zero (d : Int) (h : 0 ≤ d) : subN d 0 = d := by unfold subN; omega
theorem subN_succ (d : Int) (c : Nat) : subN d (c + 1) = if 0 < subN d c then subN d c - 1 else subN d c := by unfold subN; split <;> omega
theorem subN_nn (d : Int) (c : Nat) : 0 ≤ subN d c := by unfold subN; omega
theorem subN_le (d : Int) (c : Nat) (h : 0 ≤ d) : subN d c ≤ d := by unfold subN; omega
def lackNeed (g : Goal) (list : List Hold) (devs : List Int) (n : Need) : Int := subN n.2 (cntTo g list devs n.1 16)
/-- A share is there, or is given by one of the first m holdings. -/
def hasTo (g : Goal) (list : List Hold) (devs : List Int) (x : Int) (m : Nat) : Prop := x ∈ g.shares ∨ ∃ h ∈ list.take m, h.dev ∈ devs ∧ x ∈ h.shares
def hasShare (g : Goal) (list : List Hold) (devs : List Int) (x : Int) : Prop := x ∈ g.shares ∨ ∃ h ∈ list, h.dev ∈ devs ∧ x ∈ h.shares
instance (g : Goal) (list : List Hold) (devs : List Int) (x : Int) : Decidable (hasShare g list devs x) := by unfold hasShare; infer_instance
theorem hasTo_all {g : Goal} {list : List Hold} {devs : List Int} {x : Int} {m : Nat} (hm : list.length ≤ m) : hasTo g list devs x m ↔ hasShare g list devs x := by
  unfold hasTo hasShare
  rw [List.take_of_length_le hm]
theorem hasTo_zero {g : Goal} {list : List Hold} {devs : List Int} {x : Int} : hasTo g list devs x 0 ↔ x ∈ g.shares := by
  unfold hasTo
  simp
theorem hasTo_succ {g : Goal} {list : List Hold} {devs : List Int} {x : Int} {m : Nat} (hm : m < list.length) : hasTo g list devs x (m + 1) ↔ hasTo g list devs x m ∨ ((hgt list m).dev ∈ devs ∧ x ∈ (hgt list m).shares) := by
  unfold hasTo
  rw [List.take_succ_eq_append_getElem hm, ← hgt_eq list m hm]
  simp only [List.mem_append, List.mem_singleton, or_and_right, exists_or, exists_eq_left, or_assoc]
/-- How many shares from 1 to k are there or given. -/
def shrTo (g : Goal) (list : List Hold) (devs : List Int) : Nat → Nat
  | 0 => 0
  | k + 1 => shrTo g list devs k + if hasShare g list devs ((k : Int) + 1) then 1 else 0
def lackShares (g : Goal) (list : List Hold) (devs : List Int) : Int := subN g.thr (shrTo g list devs 255)
/-- The index is lacking behind the first m holdings. -/
def idxTo (g : Goal) (list : List Hold) (devs : List Int) (m : Nat) : Prop := g.index = true ∧ ¬ ∃ h ∈ list.take m, h.dev ∈ devs ∧ h.index = true
def lacksIdx (g : Goal) (list : List Hold) (devs : List Int) : Prop := g.index = true ∧ ¬ ∃ h ∈ list, h.dev ∈ devs ∧ h.index = true
instance (g : Goal) (list : List Hold) (devs : List Int) : Decidable (lacksIdx g list devs) := by unfold lacksIdx; infer_instance
theorem idxTo_all {g : Goal} {list : List Hold} {devs : List Int} {m : Nat} (hm : list.length ≤ m) : idxTo g list devs m ↔ lacksIdx g list devs := by
  unfold idxTo lacksIdx
  rw [List.take_of_length_le hm]
theorem idxTo_zero {g : Goal} {list : List Hold} {devs : List Int} : idxTo g list devs 0 ↔ g.index = true := by
  unfold idxTo
  simp
theorem idxTo_succ {g : Goal} {list : List Hold} {devs : List Int} {m : Nat} (hm : m < list.length) : idxTo g list devs (m + 1) ↔ idxTo g list devs m ∧ ¬ ((hgt list m).dev ∈ devs ∧ (hgt list m).index = true) := by
  unfold idxTo
  rw [List.take_succ_eq_append_getElem hm, ← hgt_eq list m hm]
  simp only [List.mem_append, List.mem_singleton, or_and_right, exists_or, exists_eq_left, not_or, and_assoc]
def lackIdx (g : Goal) (list : List Hold) (devs : List Int) : Int := if lacksIdx g list devs then 1 else 0
noncomputable def idxN (g : Goal) (list : List Hold) (devs : List Int) (m : Nat) : Int := open Classical in if idxTo g list devs m then 1 else 0
theorem idxN_yes {g : Goal} {list : List Hold} {devs : List Int} {m : Nat} (h : idxTo g list devs m) : idxN g list devs m = 1 := by unfold idxN; exact if_pos h
theorem idxN_no {g : Goal} {list : List Hold} {devs : List Int} {m : Nat} (h : ¬ idxTo g list devs m) : idxN g list devs m = 0 := by unfold idxN; exact if_neg h
theorem idxN_all {g : Goal} {list : List Hold} {devs : List Int} {m : Nat} (hm : list.length ≤ m) : idxN g list devs m = lackIdx g list devs := by
  by_cases h : idxTo g list devs m
  · rw [idxN_yes h, lackIdx, if_pos ((idxTo_all hm).1 h)]
  · rw [idxN_no h, lackIdx, if_neg fun h' => h ((idxTo_all hm).2 h')]
theorem idxN_same {g : Goal} {list : List Hold} {devs : List Int} {m n : Nat} (h : idxTo g list devs n ↔ idxTo g list devs m) : idxN g list devs n = idxN g list devs m := by
  by_cases h' : idxTo g list devs m
  · rw [idxN_yes h', idxN_yes (h.2 h')]
  · rw [idxN_no h', idxN_no fun h'' => h' (h.1 h'')]
def lackNeeds (g : Goal) (list : List Hold) (devs : List Int) : List Int := g.needs.map (lackNeed g list devs)
/-- The sum of all that is lacking. -/
def lackSum (g : Goal) (list : List Hold) (devs : List Int) : Int := (lackNeeds g list devs).sum + lackShares g list devs + lackIdx g list devs
end Go.Proofs.Ytlinhckgdfhppaa
/- The plain data of layer 51 and how they lie in memory. -/
namespace Go.Proofs.Ytlinhckgdfhppaa
open Go Go.RowKit Go.Proofs.YtlinhckgdfhppaaK

def kPiece : Kn Piece := Kn.pair Kn.str (Kn.int .i64)
def kHold : Kn Hold := (Kn.pair (Kn.int .i64) (Kn.pair (Kn.slice kPiece) (Kn.pair (Kn.slice (Kn.int .i64)) Kn.bool))).iso fun h => (h.dev, h.pieces, h.shares, h.index)
theorem kPiece_open {w : World} {ok : Nat → Prop} {x : Piece} {cs : List Value} (h : kPiece.K w ok x cs) : cs = [.string x.1, .int .i64 x.2] := by
  obtain ⟨_, _, rfl, rfl, rfl⟩ := h
  exact rfl
theorem kPiece_mk (w : World) (ok : Nat → Prop) (x : Piece) : kPiece.K w ok x [.string x.1, .int .i64 x.2] := ⟨[.string x.1], [.int .i64 x.2], rfl, rfl, rfl⟩
theorem kHold_open {w : World} {ok : Nat → Prop} {x : Hold} {cs : List Value} (h : kHold.K w ok x cs) :
    ∃ A c A' c', cs = [.int .i64 x.dev, .slice A x.pieces.length c, .slice A' x.shares.length c', .bool x.index] ∧ x.pieces.length ≤ c ∧ Row kPiece w ok A x.pieces.length x.pieces ∧ x.shares.length ≤ c' ∧ Row (Kn.int .i64) w ok A' x.shares.length x.shares := by
  obtain ⟨_, _, rfl, rfl, _, _, rfl, ⟨A, c, rfl, h1, h2⟩, _, _, rfl, ⟨A', c', rfl, h3, h4⟩, rfl⟩ := h
  exact ⟨A, c, A', c', rfl, h1, h2, h3, h4⟩
theorem kHold_mk {w : World} {ok : Nat → Prop} {x : Hold} {A A' : Option Addr} {c c' : Nat} (h1 : x.pieces.length ≤ c) (h2 : Row kPiece w ok A x.pieces.length x.pieces) (h3 : x.shares.length ≤ c') (h4 : Row (Kn.int .i64) w ok A' x.shares.length x.shares) :
    kHold.K w ok x [.int .i64 x.dev, .slice A x.pieces.length c, .slice A' x.shares.length c', .bool x.index] :=
  ⟨[.int .i64 x.dev], _, rfl, rfl, [.slice A x.pieces.length c], _, rfl, ⟨A, c, rfl, h1, h2⟩, [.slice A' x.shares.length c'], _, rfl, ⟨A', c', rfl, h3, h4⟩, rfl⟩

theorem rowPiece {w : World} {ok : Nat → Prop} {A : Option Addr} {n : Nat} {xs : List Piece} (h : Row kPiece w ok A n xs) (k : Nat) (hk : k < n) :
    ∃ ad, A = some ad ∧ ok ad.block ∧ ad.block < w.heap.size ∧ w.cell? (ad.add (k * 2)) = some (.string (pg xs k).1) ∧ w.cell? ⟨(ad.add (k * 2)).block, (ad.add (k * 2)).off + 1, none⟩ = some (.int .i64 (pg xs k).2) := by
  obtain ⟨ad, cs, e, ho, hlt, hK, hc⟩ := h.at_ (ByteArray.empty, 0) k hk
  obtain rfl := kPiece_open hK
  exact ⟨ad, e, ho, hlt, hc 0 _ rfl, by rw [field_addr _ _ _ (by omega)]; exact hc 1 _ rfl⟩
theorem rowHold {w : World} {ok : Nat → Prop} {A : Option Addr} {n : Nat} {xs : List Hold} (h : Row kHold w ok A n xs) (k : Nat) (hk : k < n) :
    ∃ ad A1 c1 A2 c2, A = some ad ∧ ok ad.block ∧ ad.block < w.heap.size ∧ w.cell? (ad.add (k * 4)) = some (.int .i64 (hgt xs k).dev) ∧
      w.cell? ⟨(ad.add (k * 4)).block, (ad.add (k * 4)).off + 1, none⟩ = some (.slice A1 (hgt xs k).pieces.length c1) ∧
      w.cell? ⟨(ad.add (k * 4)).block, (ad.add (k * 4)).off + 2, none⟩ = some (.slice A2 (hgt xs k).shares.length c2) ∧
      w.cell? ⟨(ad.add (k * 4)).block, (ad.add (k * 4)).off + 3, none⟩ = some (.bool (hgt xs k).index) ∧
      (hgt xs k).pieces.length ≤ c1 ∧ Row kPiece w ok A1 (hgt xs k).pieces.length (hgt xs k).pieces ∧ (hgt xs k).shares.length ≤ c2 ∧ Row (Kn.int .i64) w ok A2 (hgt xs k).shares.length (hgt xs k).shares := by
  obtain ⟨ad, cs, e, ho, hlt, hK, hc⟩ := h.at_ ⟨0, [], [], false⟩ k hk
  obtain ⟨A1, c1, A2, c2, rfl, h1, h2, h3, h4⟩ := kHold_open hK
  exact ⟨ad, A1, c1, A2, c2, e, ho, hlt, hc 0 _ rfl, by rw [field_addr _ _ _ (by omega)]; exact hc 1 _ rfl, by rw [field_addr _ _ _ (by omega)]; exact hc 2 _ rfl, by rw [field_addr _ _ _ (by omega)]; exact hc 3 _ rfl, h1, h2, h3, h4⟩

theorem eq_piece (d : Nat) (w : World) (x0 y0 : ByteArray) (x1 y1 : Int) :
    (Op.equalIn (d + 2) 52 (.agg #[.string x0, .int .i64 x1]) (.agg #[.string y0, .int .i64 y1])).run Try.prog w = .ok (x0.toList == y0.toList && (x1 == y1)) w := by
  refine eqA_of Try.underlying52 (by kernel_rfl) ?_
  refine eqf_cons (by rfl) (by go_simp; rfl) (by go_simp; rfl) (by go_simp) ?_
  exact eqf_last (by rfl) (by go_simp; rfl) (by go_simp; rfl) (by go_simp)

/-- A goal, as its five cells read. -/
structure GoalIn (w : World) (ok : Nat → Prop) (g : Goal) (A1 : Option Addr) (c1 : Nat) (A2 : Option Addr) (c2 : Nat) (A3 : Option Addr) (c3 : Nat) : Prop where
  n : Row kPiece w ok A1 g.needs.length g.needs
  cn : g.needs.length ≤ c1
  p : Row kPiece w ok A2 g.pieces.length g.pieces
  cp : g.pieces.length ≤ c2
  s : Row (Kn.int .i64) w ok A3 g.shares.length g.shares
  cs : g.shares.length ≤ c3
theorem GoalIn.below {w w' : World} {ok : Nat → Prop} {g : Goal} {A1 A2 A3 : Option Addr} {c1 c2 c3 : Nat} (h : GoalIn w ok g A1 c1 A2 c2 A3 c3) (hb : Below w.heap.size w w') : GoalIn w' ok g A1 c1 A2 c2 A3 c3 :=
  ⟨h.n.below hb, h.cn, h.p.below hb, h.cp, h.s.below hb, h.cs⟩
/-- The cells of a goal. -/
abbrev goalCells (g : Goal) (A1 : Option Addr) (c1 : Nat) (A2 : Option Addr) (c2 : Nat) (A3 : Option Addr) (c3 : Nat) : Array Value :=
  #[.slice A1 g.needs.length c1, .int .i64 g.thr, .bool g.index, .slice A2 g.pieces.length c2, .slice A3 g.shares.length c3]
end Go.Proofs.Ytlinhckgdfhppaa
namespace Go.Proofs.Ytlinhckgdfhppaa
open Go Go.RowKit Go.Proofs.YtlinhckgdfhppaaK
attribute [local go_sem high] eq_piece

theorem ints_snoc {xs : List Int} {k : Nat} {x : Int} (hk : k < xs.length) : (x ∈ xs.take (k + 1)) ↔ (x ∈ xs.take k ∨ ig xs k = x) := by
  rw [List.take_succ_eq_append_getElem hk, ← ig_eq xs k hk, List.mem_append, List.mem_singleton]
  exact ⟨fun h => h.imp_right Eq.symm, fun h => h.imp_right Eq.symm⟩
set_option maxHeartbeats 400000 in
theorem contains_any (A : Option Addr) (n c : Nat) (ok : Nat → Prop) (xs : List Int) (x : Int) (w : World) (h : Row (Kn.int .i64) w ok A n xs) :
    Calls Try.prog 33 #[.slice A n c, .int .i64 x] w fun e w' => e = .returned (.bool (decide (x ∈ xs))) ∧ w = w' := by
  have hl := h.1
  have hm := h.2.1
  have HL := As.mk hl
  clear hl
  go_enter Try.func33, Try.ntmps33
  go_wp2
  go_loop [5] (fun i => ∃ k : Nat, k ≤ n ∧ i = .int .i64 k ∧ As (x ∉ xs.take k)) (fun i => n - (intOf i).toNat)
  case atStart => exact ⟨0, Nat.zero_le _, rfl, ⟨by simp⟩⟩
  case round =>
    obtain ⟨k, hk, rfl, hne⟩ := hrel
    by_cases hlt : k < n
    · obtain ⟨ad, rfl, _, _, hcell⟩ := h.int_at k hlt
      have hsn := ints_snoc (x := x) (show k < xs.length by rw [HL.o]; exact hlt)
      have HS := As.mk hsn
      clear hsn
      by_cases hx : ig xs k = x
      · have hb : (ig xs k == x) = true := beq_iff_eq.2 hx
        have HX := As.mk hx
        clear hx
        go_wp2
        go_ret
        exact ⟨by rw [decide_eq_true (List.mem_of_mem_take (HS.o.2 (.inr HX.o)))]; rfl, rfl⟩
      · have hb : (ig xs k == x) = false := beq_eq_false_iff_ne.2 hx
        go_wp2
        go_round
        case rel => exact ⟨k + 1, by omega, by go_num, ⟨fun hc => (HS.o.1 hc).elim hne.o hx⟩⟩
        case measure => simp [intOf]; omega
    · go_wp2
      go_ret
      refine ⟨?_, rfl⟩
      have : xs.take k = xs := List.take_of_length_le (by rw [HL.o]; omega)
      rw [decide_eq_false (by rw [← this]; exact hne.o)]
      rfl
end Go.Proofs.Ytlinhckgdfhppaa
namespace Go.Proofs.Ytlinhckgdfhppaa
open Go Go.RowKit Go.Proofs.YtlinhckgdfhppaaK
attribute [local go_sem high] eq_piece

theorem pieces_snoc {xs : List Piece} {k : Nat} {x : Piece} (hk : k < xs.length) : (x ∈ xs.take (k + 1)) ↔ (x ∈ xs.take k ∨ pg xs k = x) := by
  rw [List.take_succ_eq_append_getElem hk, ← pg_eq xs k hk, List.mem_append, List.mem_singleton]
  exact ⟨fun h => h.imp_right Eq.symm, fun h => h.imp_right Eq.symm⟩
theorem piece_beq (x y : Piece) : ((x.1.toList == y.1.toList && (x.2 == y.2)) = true) ↔ x = y := by
  rw [Bool.and_eq_true, beq_iff_eq, beq_iff_eq, toList_inj]
  exact ⟨fun h => Prod.ext h.1 h.2, fun h => by rw [h]; exact ⟨rfl, rfl⟩⟩

set_option maxHeartbeats 400000 in
theorem has_any (A : Option Addr) (n c : Nat) (ok : Nat → Prop) (xs : List Piece) (s : ByteArray) (i : Int) (w : World) (h : Row kPiece w ok A n xs) :
    Calls Try.prog 51 #[.slice A n c, .agg #[.string s, .int .i64 i]] w fun e w' => e = .returned (.bool (decide ((s, i) ∈ xs))) ∧ Below w.heap.size w w' := by
  have hm := h.2.1
  have HL := As.mk h.1
  go_enter Try.func51, Try.ntmps51
  go_wp2
  go_loopw [5] (fun i' wr => ∃ k : Nat, k ≤ n ∧ i' = .int .i64 k ∧ As ((s, i) ∉ xs.take k) ∧ (Below w.heap.size w wr) ∧ wr.cell? ⟨w.heap.size, 0, none⟩ = some (.string s) ∧ wr.cell? ⟨w.heap.size, 1, none⟩ = some (.int .i64 i)) (fun i' _ => n - (intOf i').toNat)
  case atStart => exact ⟨0, Nat.zero_le _, rfl, ⟨by simp⟩, (Below.refl _ _).alloc (Nat.le_refl _) _, by simp, by simp⟩
  case round =>
    obtain ⟨k, hk, rfl, hne, hb, hc0, hc1⟩ := hrel
    by_cases hlt : k < n
    · obtain ⟨ad, rfl, _, hlt', p0, p1⟩ := rowPiece h k hlt
      replace p0 := (hb.cell (by rw [block_add]; exact hlt')).trans p0
      replace p1 := (hb.cell (by rw [block_add]; exact hlt')).trans p1
      have HS := As.mk (pieces_snoc (x := (s, i)) (show k < xs.length by rw [HL.o]; exact hlt))
      have HB := As.mk (piece_beq (pg xs k) (s, i))
      clear h
      generalize pg xs k = y at *
      by_cases hx : (y.1.toList == s.toList && (y.2 == i)) = true
      · have HX := As.mk (List.mem_of_mem_take (HS.o.2 (.inr (HB.o.1 hx))))
        go_wp2
        go_quiet (fail)
        go_wp2
        go_ret
        exact ⟨by rw [decide_eq_true HX.o]; rfl, below_drewN hb _⟩
      · have hx' := Bool.eq_false_iff.2 hx
        have HX : As ((s, i) ∉ xs.take (k + 1)) := ⟨fun hc => (HS.o.1 hc).elim hne.o fun he => hx (HB.o.2 he)⟩
        clear hx
        go_wp2
        go_quiet (fail)
        go_wp2
        go_roundw
        case rel => exact ⟨k + 1, by omega, by go_num, HX, below_drewN hb _, hc0, hc1⟩
        case measure => simp [intOf]; omega
    · go_wp2
      go_ret
      refine ⟨?_, hb⟩
      have : xs.take k = xs := List.take_of_length_le (by rw [HL.o]; omega)
      rw [decide_eq_false (by rw [← this]; exact hne.o)]
      rfl
end Go.Proofs.Ytlinhckgdfhppaa
namespace Go.Proofs.Ytlinhckgdfhppaa
open Go Go.RowKit Go.Proofs.YtlinhckgdfhppaaK
attribute [local go_sem high] eq_piece

/-- Pieces are valid and different. -/
def okPieces (xs : List Piece) : Prop := (∀ p ∈ xs, 0 ≤ p.2 ∧ p.2 < 16) ∧ xs.Nodup
instance (xs : List Piece) : Decidable (okPieces xs) := by unfold okPieces; infer_instance
theorem okPieces_snoc {xs : List Piece} {k : Nat} (hk : k < xs.length) : okPieces (xs.take (k + 1)) ↔ okPieces (xs.take k) ∧ 0 ≤ (pg xs k).2 ∧ (pg xs k).2 < 16 ∧ pg xs k ∉ xs.take k := by
  rw [List.take_succ_eq_append_getElem hk, ← pg_eq xs k hk]
  unfold okPieces
  rw [List.nodup_append]
  constructor
  · rintro ⟨h1, h2, _, h3⟩
    exact ⟨⟨fun p hp => h1 p (List.mem_append_left _ hp), h2⟩, (h1 _ (List.mem_append_right _ (List.mem_singleton.2 rfl))).1, (h1 _ (List.mem_append_right _ (List.mem_singleton.2 rfl))).2, fun h => h3 _ h _ (List.mem_singleton.2 rfl) rfl⟩
  · rintro ⟨⟨h1, h2⟩, h3, h4, h5⟩
    refine ⟨fun p hp => ?_, h2, by simp, fun a ha b hb => ?_⟩
    · rcases List.mem_append.1 hp with hp | hp
      · exact h1 p hp
      · rw [List.mem_singleton.1 hp]; exact ⟨h3, h4⟩
    · rw [List.mem_singleton.1 hb]
      exact fun e => h5 (e ▸ ha)
theorem okPieces_take {xs : List Piece} (h : okPieces xs) (k : Nat) : okPieces (xs.take k) :=
  ⟨fun p hp => h.1 p (List.mem_of_mem_take hp), h.2.sublist (List.take_sublist _ _)⟩

/-- The index of the holding of a device, or -1. -/
def findDev (xs : List Hold) (x : Int) : Int := if x ∈ xs.map (·.dev) then ((xs.map (·.dev)).idxOf x : Int) else -1
set_option maxRecDepth 100000 in
set_option maxHeartbeats 400000 in
theorem find_any (A : Option Addr) (n c : Nat) (ok : Nat → Prop) (xs : List Hold) (x : Int) (w : World) (h : Row kHold w ok A n xs) :
    Calls Try.prog 49 #[.slice A n c, .int .i64 x] w fun e w' => e = .returned (.int .i64 (findDev xs x)) ∧ w = w' := by
  have hm := h.2.1
  have HL := As.mk h.1
  go_enter Try.func49, Try.ntmps49
  go_wp2
  go_loop [5] (fun i => ∃ k : Nat, k ≤ n ∧ i = .int .i64 k ∧ As (x ∉ (xs.take k).map (·.dev))) (fun i => n - (intOf i).toNat)
  case atStart => exact ⟨0, Nat.zero_le _, rfl, ⟨by simp⟩⟩
  case round =>
    obtain ⟨k, hk, rfl, hne⟩ := hrel
    by_cases hlt : k < n
    · obtain ⟨ad, A1, c1, A2, c2, rfl, _, _, p0, p1, p2, p3, _⟩ := rowHold h k hlt
      have hkl : k < xs.length := by rw [HL.o]; exact hlt
      have HS : As (∀ z, z ∈ (xs.take (k + 1)).map (·.dev) ↔ z ∈ (xs.take k).map (·.dev) ∨ (hgt xs k).dev = z) := ⟨fun z => by
        rw [List.take_succ_eq_append_getElem hkl, ← hgt_eq xs k hkl, List.map_append, List.mem_append]
        simp [eq_comm]⟩
      have HI : As ((hgt xs k).dev = x → x ∉ (xs.take k).map (·.dev) → (xs.map (·.dev)).idxOf x = k) := ⟨fun e hn => by
        have hsplit : xs = xs.take k ++ xs[k] :: xs.drop (k + 1) := by rw [List.getElem_cons_drop, List.take_append_drop]
        rw [hsplit, List.map_append, List.idxOf_append, if_neg hn, List.length_map, List.length_take, List.map_cons, ← hgt_eq xs k hkl]
        rw [List.idxOf_cons, e]
        simp
        omega⟩
      have HM : As ((hgt xs k).dev ∈ xs.map (·.dev)) := ⟨List.mem_map.2 ⟨hgt xs k, by rw [hgt_eq xs k hkl]; exact List.getElem_mem hkl, rfl⟩⟩
      clear h hkl
      generalize hgt xs k = y at *
      by_cases hx : y.dev = x
      · have hb : (y.dev == x) = true := beq_iff_eq.2 hx
        have HX := As.mk hx
        clear hx
        go_wp2
        go_ret
        exact ⟨by rw [findDev, if_pos (HX.o ▸ HM.o), HI.o HX.o hne.o]; rfl, rfl⟩
      · have hb : (y.dev == x) = false := beq_eq_false_iff_ne.2 hx
        have HX : As (x ∉ (xs.take (k + 1)).map (·.dev)) := ⟨fun hc => ((HS.o x).1 hc).elim hne.o hx⟩
        go_wp2
        go_round
        case rel => exact ⟨k + 1, by omega, by go_num, HX⟩
        case measure => simp [intOf]; omega
    · go_wp2
      go_ret
      refine ⟨?_, rfl⟩
      have : xs.take k = xs := List.take_of_length_le (by rw [HL.o]; omega)
      have h1 := hne.o
      rw [this] at h1
      rw [findDev, if_neg h1]
      rfl
set_option maxRecDepth 100000 in
set_option maxHeartbeats 400000 in
theorem pieces_any (A : Option Addr) (n c : Nat) (ok : Nat → Prop) (xs : List Piece) (w : World) (h : Row kPiece w ok A n xs) (hc : n ≤ c) :
    Calls Try.prog 47 #[.slice A n c] w fun e w' => e = .returned (.bool (decide (okPieces xs))) ∧ Below w.heap.size w w' := by
  have hm := h.2.1
  have HL := As.mk h.1
  go_enter Try.func47, Try.ntmps47
  go_wp2
  go_loopw [3] (fun i' wr => ∃ k : Nat, k ≤ n ∧ i' = .int .i64 k ∧ As (okPieces (xs.take k)) ∧ (Below w.heap.size w wr)) (fun i' _ => n - (intOf i').toNat)
  case atStart => exact ⟨0, Nat.zero_le _, rfl, ⟨by simp [okPieces]⟩, Below.refl _ _⟩
  case round =>
    obtain ⟨k, hk, rfl, hne, hb⟩ := hrel
    by_cases hlt : k < n
    · have hw := h.below hb
      have HT := hw.take k hk
      obtain ⟨ad, rfl, _, hlt', p0, p1⟩ := rowPiece hw k hlt
      have HS := As.mk (okPieces_snoc (show k < xs.length by rw [HL.o]; exact hlt))
      clear h hw
      generalize pg xs k = y at *
      by_cases h1 : y.2 < 0
      · have HN : As (¬ okPieces xs) := ⟨fun hc => by have := (HS.o.1 (okPieces_take hc _)).2.1; omega⟩
        have hd : decide (y.2 < 0) = true := decide_eq_true h1
        go_wp2
        go_quiet (fail)
        go_wp2
        go_ret
        exact ⟨by rw [decide_eq_false HN.o]; rfl, below_drewN hb _⟩
      · have hd : decide (y.2 < 0) = false := decide_eq_false h1
        by_cases h2 : 16 ≤ y.2
        · have HN : As (¬ okPieces xs) := ⟨fun hc => by have := (HS.o.1 (okPieces_take hc _)).2.2.1; omega⟩
          have hd2 : decide (16 ≤ y.2) = true := decide_eq_true h2
          go_wp2
          go_quiet (fail)
          go_wp2
          go_ret
          exact ⟨by rw [decide_eq_false HN.o]; rfl, below_drewN hb _⟩
        · have hd2 : decide (16 ≤ y.2) = false := decide_eq_false h2
          have hkc : k ≤ c := by omega
          go_wp2
          by_cases hy : y ∈ xs.take k
          · have HN : As (¬ okPieces xs) := ⟨fun hc => (HS.o.1 (okPieces_take hc _)).2.2.2 hy⟩
            have CON : As (∀ W, Below wr.heap.size wr W → Calls Try.prog 51 #[.slice (some ad) k c, .agg #[.string y.1, .int .i64 y.2]] W fun e w' => e = .returned (.bool true) ∧ Below W.heap.size W w') := ⟨fun W hW => (has_any _ _ _ _ _ _ _ _ (HT.below hW)).mono fun e w' ⟨h1, h2⟩ => ⟨by rw [h1, decide_eq_true hy], h2⟩⟩
            clear hy HT
            go_still_tail 22, (by kernel_rfl)
            change wpList _ _ _ _ _ wr.drew
            have hb2 := (Below.refl wr.heap.size wr).drew
            generalize wr.drew = w2 at hb2 ⊢
            go_wp2_with (go_at_call 51; refine (CON.o _ hb2).mono ?_; rintro e w' ⟨rfl, hb'⟩)
            go_ret
            exact ⟨by rw [decide_eq_false HN.o]; rfl, bthen (bthen hb hb2 (Nat.le_refl _)) hb' (Nat.le_refl _)⟩
          · have HN : As (okPieces (xs.take (k + 1))) := ⟨HS.o.2 ⟨hne.o, by omega, by omega, hy⟩⟩
            have CON : As (∀ W, Below wr.heap.size wr W → Calls Try.prog 51 #[.slice (some ad) k c, .agg #[.string y.1, .int .i64 y.2]] W fun e w' => e = .returned (.bool false) ∧ Below W.heap.size W w') := ⟨fun W hW => (has_any _ _ _ _ _ _ _ _ (HT.below hW)).mono fun e w' ⟨h1, h2⟩ => ⟨by rw [h1, decide_eq_false hy], h2⟩⟩
            clear hy HT
            go_still_tail 22, (by kernel_rfl)
            change wpList _ _ _ _ _ wr.drew
            have hb2 := (Below.refl wr.heap.size wr).drew
            generalize wr.drew = w2 at hb2 ⊢
            go_wp2_with (go_at_call 51; refine (CON.o _ hb2).mono ?_; rintro e w' ⟨rfl, hb'⟩)
            go_roundw
            case rel => exact ⟨k + 1, by omega, by go_num, HN, bthen (bthen hb hb2 (Nat.le_refl _)) hb' (Nat.le_refl _)⟩
            case measure => simp [intOf]; omega
    · go_wp2
      go_ret
      refine ⟨?_, hb⟩
      have : xs.take k = xs := List.take_of_length_le (by rw [HL.o]; omega)
      rw [decide_eq_true (by rw [← this]; exact hne.o)]
      rfl

/-- Shares ascend from 1 to 255. -/
def okShares (xs : List Int) : Prop := (∀ x ∈ xs, 1 ≤ x ∧ x ≤ 255) ∧ xs.Pairwise (· < ·)
instance (xs : List Int) : Decidable (okShares xs) := by unfold okShares; infer_instance
theorem okShares_take {xs : List Int} (h : okShares xs) (k : Nat) : okShares (xs.take k) :=
  ⟨fun p hp => h.1 p (List.mem_of_mem_take hp), h.2.sublist (List.take_sublist _ _)⟩
theorem okShares_snoc {xs : List Int} {k : Nat} (hk : k < xs.length) : okShares (xs.take (k + 1)) ↔ okShares (xs.take k) ∧ 1 ≤ ig xs k ∧ ig xs k ≤ 255 ∧ (0 < k → ig xs (k - 1) < ig xs k) := by
  rw [List.take_succ_eq_append_getElem hk, ← ig_eq xs k hk]
  unfold okShares
  rw [List.pairwise_append]
  constructor
  · rintro ⟨h1, h2, _, h3⟩
    refine ⟨⟨fun p hp => h1 p (List.mem_append_left _ hp), h2⟩, (h1 _ (List.mem_append_right _ (List.mem_singleton.2 rfl))).1, (h1 _ (List.mem_append_right _ (List.mem_singleton.2 rfl))).2, fun h0 => h3 _ ?_ _ (List.mem_singleton.2 rfl)⟩
    rw [ig_eq xs (k - 1) (by omega)]
    exact List.mem_take_iff_getElem.2 ⟨k - 1, by omega, rfl⟩
  · rintro ⟨⟨h1, h2⟩, h3, h4, h5⟩
    refine ⟨fun p hp => ?_, h2, by simp, fun a ha b hb => ?_⟩
    · rcases List.mem_append.1 hp with hp | hp
      · exact h1 p hp
      · rw [List.mem_singleton.1 hp]; exact ⟨h3, h4⟩
    · rw [List.mem_singleton.1 hb]
      obtain ⟨j, hj, rfl⟩ := List.mem_take_iff_getElem.1 ha
      have hlast := h5 (by omega)
      rcases Nat.lt_or_ge j (k - 1) with hlt | hge
      · have := List.pairwise_iff_getElem.1 h2 j (k - 1) (by rw [List.length_take]; omega) (by rw [List.length_take]; omega) hlt
        simp only [List.getElem_take] at this
        rw [ig_eq xs (k - 1) (by omega)] at hlast
        omega
      · have e : j = k - 1 := by omega
        subst e
        rw [ig_eq xs (k - 1) (by omega)] at hlast
        exact hlast

set_option maxRecDepth 100000 in
set_option maxHeartbeats 400000 in
theorem shares_any (A : Option Addr) (n c : Nat) (ok : Nat → Prop) (xs : List Int) (w : World) (h : Row (Kn.int .i64) w ok A n xs) :
    Calls Try.prog 48 #[.slice A n c] w fun e w' => e = .returned (.bool (decide (okShares xs))) ∧ Below w.heap.size w w' := by
  have hm := h.2.1
  have HL := As.mk h.1
  go_enter Try.func48, Try.ntmps48
  go_wp2
  go_loopw [3] (fun i' wr => ∃ k : Nat, k ≤ n ∧ i' = .int .i64 k ∧ As (okShares (xs.take k)) ∧ (Below w.heap.size w wr)) (fun i' _ => n - (intOf i').toNat)
  case atStart => exact ⟨0, Nat.zero_le _, rfl, ⟨by simp [okShares]⟩, Below.refl _ _⟩
  case round =>
    obtain ⟨k, hk, rfl, hne, hb⟩ := hrel
    by_cases hlt : k < n
    · have hw := h.below hb
      obtain ⟨ad, rfl, _, hlt', p0⟩ := hw.int_at k hlt
      have HS := As.mk (okShares_snoc (show k < xs.length by rw [HL.o]; exact hlt))
      by_cases h1 : ig xs k < 1
      · have HN : As (¬ okShares xs) := ⟨fun hc => by have := (HS.o.1 (okShares_take hc _)).2.1; omega⟩
        have hd : decide (ig xs k < 1) = true := decide_eq_true h1
        clear h hw
        go_wp2
        go_quiet (fail)
        go_wp2
        go_ret
        exact ⟨by rw [decide_eq_false HN.o]; rfl, below_drewN hb _⟩
      · have hd : decide (ig xs k < 1) = false := decide_eq_false h1
        by_cases h2 : 255 < ig xs k
        · have HN : As (¬ okShares xs) := ⟨fun hc => by have := (HS.o.1 (okShares_take hc _)).2.2.1; omega⟩
          have hd2 : decide (255 < ig xs k) = true := decide_eq_true h2
          clear h hw
          go_wp2
          go_quiet (fail)
          go_wp2
          go_ret
          exact ⟨by rw [decide_eq_false HN.o]; rfl, below_drewN hb _⟩
        · have hd2 : decide (255 < ig xs k) = false := decide_eq_false h2
          by_cases h3 : 0 < k
          · have hd3 : decide ((0 : Int) < (k : Int)) = true := decide_eq_true (by omega)
            obtain ⟨ad', e', _, _, p1⟩ := hw.int_at (k - 1) (by omega)
            injection e' with e'
            subst e'
            have h6 : (0 : Int) ≤ (k : Int) - 1 := by omega
            have h7 : ((k : Int) - 1).toNat = k - 1 := by omega
            by_cases h4 : ig xs k ≤ ig xs (k - 1)
            · have HN : As (¬ okShares xs) := ⟨fun hc => by have := (HS.o.1 (okShares_take hc _)).2.2.2 h3; omega⟩
              have hd4 : decide (ig xs k ≤ ig xs (k - 1)) = true := decide_eq_true h4
              clear h hw
              go_wp2
              go_quiet (fail)
              go_wp2
              go_ret
              exact ⟨by rw [decide_eq_false HN.o]; rfl, below_drewN hb _⟩
            · have HN : As (okShares (xs.take (k + 1))) := ⟨HS.o.2 ⟨hne.o, by omega, by omega, fun _ => by omega⟩⟩
              have hd4 : decide (ig xs k ≤ ig xs (k - 1)) = false := decide_eq_false h4
              clear h hw
              go_wp2
              go_quiet (fail)
              go_wp2
              go_roundw
              case rel => exact ⟨k + 1, by omega, by go_num, HN, below_drewN hb _⟩
              case measure => simp [intOf]; omega
          · have hd3 : decide ((0 : Int) < (k : Int)) = false := decide_eq_false (by omega)
            have HN : As (okShares (xs.take (k + 1))) := ⟨HS.o.2 ⟨hne.o, by omega, by omega, fun h => absurd h h3⟩⟩
            clear h hw
            go_wp2
            go_quiet (fail)
            go_wp2
            go_roundw
            case rel => exact ⟨k + 1, by omega, by go_num, HN, below_drewN hb _⟩
            case measure => simp [intOf]; omega
    · go_wp2
      go_ret
      refine ⟨?_, hb⟩
      have : xs.take k = xs := List.take_of_length_le (by rw [HL.o]; omega)
      rw [decide_eq_true (by rw [← this]; exact hne.o)]
      rfl
end Go.Proofs.Ytlinhckgdfhppaa
namespace Go.Proofs.Ytlinhckgdfhppaa
open Go Go.RowKit Go.Proofs.YtlinhckgdfhppaaK
attribute [local go_sem high] eq_piece

theorem info_int : (Try.prog.info? 3).map (fun i => (i.zero, i.size, i.bytes)) = some (some (.int .i64 0), 1, 8) := by kernel_rfl
theorem findDev_iff (xs : List Hold) (x : Int) : 0 ≤ findDev xs x ↔ x ∈ xs.map (·.dev) := by
  unfold findDev
  split
  · rename_i h
    exact ⟨fun _ => h, fun _ => Int.natCast_nonneg _⟩
  · rename_i h
    exact ⟨fun h' => by omega, fun h' => absurd h' h⟩
/-- The devices of holdings below a bound, ascending. -/
def devsTo (xs : List Hold) (k : Nat) : List Int := ((List.range k).map (fun j : Nat => (j : Int))).filter (fun d => decide (d ∈ xs.map (·.dev)))
theorem devsTo_succ (xs : List Hold) (k : Nat) : devsTo xs (k + 1) = if (k : Int) ∈ xs.map (·.dev) then devsTo xs k ++ [(k : Int)] else devsTo xs k := by
  unfold devsTo
  rw [List.range_succ, List.map_append, List.filter_append]
  split
  · rename_i h
    rw [List.map_singleton, List.filter_cons_of_pos (by simpa using h)]
    rfl
  · rename_i h
    rw [List.map_singleton, List.filter_cons_of_neg (by simpa using h)]
    simp
theorem devsTo_len (xs : List Hold) (k : Nat) : (devsTo xs k).length ≤ k := by
  unfold devsTo
  refine Nat.le_trans (List.length_filter_le _ _) (by simp)

set_option maxRecDepth 100000 in
set_option maxHeartbeats 400000 in
theorem devices_any (A : Option Addr) (n c : Nat) (ok : Nat → Prop) (xs : List Hold) (w : World) (h : Row kHold w ok A n xs) :
    Calls Try.prog 40 #[.slice A n c] w fun e w' => ∃ v, e = .returned v ∧ Own (Kn.int .i64) 3 w' w.heap.size v (devsTo xs 12) ∧ Below w.heap.size w w' := by
  have CON : As (∀ (W : World) (x : Int), Below w.heap.size w W → Calls Try.prog 49 #[.slice A n c, .int .i64 x] W fun e w' => e = .returned (.int .i64 (findDev xs x)) ∧ W = w') := ⟨fun W x hW => find_any _ _ _ _ _ _ _ (h.below hW)⟩
  clear h
  go_enter Try.func40, Try.ntmps40
  go_wp2
  go_loopw [3, 4] (fun v i' wr => ∃ k : Nat, k ≤ 12 ∧ i' = .int .i64 k ∧ Own (Kn.int .i64) 3 wr w.heap.size v (devsTo xs k) ∧ (Below w.heap.size w wr)) (fun _ i' _ => 12 - (intOf i').toNat)
  case atStart => exact ⟨0, by omega, rfl, Own.empty _ _ _ _ (Nat.le_refl _), (Below.refl _ _).alloc (Nat.le_refl _) _⟩
  case round =>
    obtain ⟨k, hk, rfl, ho, hb⟩ := hrel
    by_cases hlt : k < 12
    · have HF := As.mk (findDev_iff xs (k : Int))
      have HS := As.mk (devsTo_succ xs k)
      have HO := As.mk ho
      have HL := devsTo_len xs k
      clear ho
      go_wp2_with (first
        | (go_at_call 49; refine (CON.o _ _ hb).mono ?_; rintro e w' ⟨rfl, rfl⟩)
        | (at_builtin; refine app_one (Kn.int .i64) w.heap.size rfl (.tmp 14) (.tmp 16) 24 (.int .i64 0) 8 rfl Try.underlying24 info_int rfl (by decide) u3 _ (k : Int) _ rfl rfl HO.o rfl hb.size (by omega) (by omega) ?_; intro v1 w1 HO1 hg hat))
      · have h0 : 0 ≤ findDev xs (k : Int) := by assumption
        have HB := As.mk (HO.o.base_le hg (Nat.le_refl _) hb.size)
        have HO2 : As (Own (Kn.int .i64) 3 w1 w.heap.size v1 (devsTo xs (k + 1))) := ⟨by rw [HS.o, if_pos (HF.o.1 h0)]; exact HO1⟩
        go_roundw
        case rel => exact ⟨k + 1, by omega, by go_num, HO2.o, hb.trans HB.o⟩
        case measure => simp [intOf]; omega
      · have h0 : findDev xs (k : Int) < 0 := by assumption
        have HO2 : As (Own (Kn.int .i64) 3 wr w.heap.size u3 (devsTo xs (k + 1))) := ⟨by rw [HS.o, if_neg (fun h => by have := HF.o.2 h; omega)]; exact HO.o⟩
        go_roundw
        case rel => exact ⟨k + 1, by omega, by go_num, HO2.o, hb⟩
        case measure => simp [intOf]; omega
    · have e : k = 12 := by omega
      subst e
      go_wp2
      go_ret
      exact ⟨_, rfl, ho, hb⟩
end Go.Proofs.Ytlinhckgdfhppaa
namespace Go.Proofs.Ytlinhckgdfhppaa
open Go Go.RowKit Go.Proofs.YtlinhckgdfhppaaK
attribute [local go_sem high] eq_piece

set_option maxRecDepth 100000 in
set_option maxHeartbeats 400000 in
theorem without_any (A : Option Addr) (n c : Nat) (xs : List Int) (k : Nat) (w : World) (h : Row (Kn.int .i64) w (fun k => k < w.heap.size) A n xs) (hk : k < n) (hc : n ≤ c) (hn : n * 8 ≤ 140737488355328) :
    Calls Try.prog 34 #[.slice A n c, .int .i64 k] w fun e w' => ∃ v, e = .returned v ∧ Own (Kn.int .i64) 3 w' w.heap.size v (xs.eraseIdx k) ∧ Below w.heap.size w w' := by
  have hm := h.2.1
  have HL := As.mk h.1
  have HT := As.mk (h.take k (by omega))
  obtain ⟨A', hcut0, hrow⟩ := cut_from (P := Try.prog) (Kn.int .i64) 24 3 .i64 Try.underlying24 info_int A n c (k + 1) (by omega) hc
  have hcut : ∀ W : World, (Instr.slice 24 (.slice A n c) (some (.int .i64 ((k : Int) + 1))) none none).run Try.prog W = .ok (.slice A' (n - (k + 1)) (c - (k + 1))) W := hcut0
  have HD := As.mk (hrow _ _ _ h)
  clear hcut0 hrow
  have hk1 : ((k : Int) + 1).toNat = k + 1 := by omega
  have hkc : k ≤ c := by omega
  have hkc1 : k + 1 ≤ c := by omega
  have hb0 : Below w.heap.size w (w.alloc (.cells #[] 3)).drew := ((Below.refl _ _).alloc (Nat.le_refl _) _).drew
  have E0 : As (Own (Kn.int .i64) 3 (w.alloc (.cells #[] 3)).drew w.heap.size (.slice (some ⟨w.heap.size, 0, none⟩) 0 0) []) := ⟨Own.empty _ _ _ _ (Nat.le_refl _)⟩
  have hok : ∀ k, k < w.heap.size → Value.ownBlock (.slice (some ⟨w.heap.size, 0, none⟩) 0 0) ≠ some k := fun k hk e => by simp [Value.ownBlock] at e; omega
  have R0 : As (Row (Kn.int .i64) (w.alloc (.cells #[] 3)).drew (fun k => True ∧ Value.ownBlock (.slice (some ⟨w.heap.size, 0, none⟩) 0 0) ≠ some k) A k (xs.take k)) := ⟨(HT.o.below hb0).mono fun j hj => ⟨trivial, hok j hj⟩⟩
  have HB0 := As.mk hb0
  clear hb0 hok
  have HL2 : As ((xs.take k).length = k) := ⟨by rw [List.length_take, HL.o]; omega⟩
  have S1 : n ≤ 9223372036854775807 := hm
  have S2 : As ((xs.take k).length + (n - (k + 1)) ≤ 9223372036854775807) := ⟨by rw [HL2.o]; omega⟩
  have S3 : As (((xs.take k).length + (n - (k + 1))) * 8 ≤ 140737488355328) := ⟨by rw [HL2.o]; omega⟩
  have b1 : (0 : Int) ≤ (k : Int) + 1 := by omega
  have b2 : (k : Int) + 1 ≤ (n : Int) := by omega
  have hwr : IntKind.i64.wrap ((k : Int) + 1) = (k : Int) + 1 := IntWalk.i64_in _ (by omega)
  go_enter Try.func34, Try.ntmps34
  go_wp2
  go_region_law (first
    | (refine step_app_row (Kn.int .i64) w.heap.size rfl (.tmp 5) (.tmp 8) 24 (.int .i64 0) 8 rfl Try.underlying24 info_int rfl (by decide) (.slice (some ⟨w.heap.size, 0, none⟩) 0 0) [] (xs.take k) A k c rfl rfl E0.o R0.o (by simp) (by simp; omega) (by simp; omega) ?_
       intro v1 w1 HO1 hg1 hat1)
    | (refine step_app_row (Kn.int .i64) w.heap.size rfl (.tmp 9) (.tmp 13) 24 (.int .i64 0) 8 rfl Try.underlying24 info_int rfl (by decide) v1 ([] ++ xs.take k) (xs.drop (k + 1)) A' (n - (k + 1)) _ rfl rfl HO1
         ((HD.o.below (HB0.o.trans (E0.o.base_le hg1 (Nat.le_refl _) (by simp)))).mono (fun j hj => ⟨trivial, fun e => by have := HO1.lt j e; omega⟩)) (by have := (HB0.o.trans (E0.o.base_le hg1 (Nat.le_refl _) (by simp))).size; exact this) S2.o S3.o ?_
       intro v2 w2 HO2 hg2 hat2))
  go_wp2
  go_ret
  refine ⟨_, rfl, ?_, ?_⟩
  · rw [List.eraseIdx_eq_take_drop_succ]
    exact HO2
  · have e1 := E0.o.base_le hg1 (Nat.le_refl _) (by simp)
    exact (HB0.o.trans e1).trans (HO1.base_le hg2 (Nat.le_refl _) (by have := (HB0.o.trans e1).size; exact this))
end Go.Proofs.Ytlinhckgdfhppaa
namespace Go.Proofs.Ytlinhckgdfhppaa
open Go Go.RowKit Go.Proofs.YtlinhckgdfhppaaK
attribute [local go_sem high] eq_piece

theorem contains_q (A : Option Addr) (n c : Nat) (ok : Nat → Prop) (xs : List Int) (x : Int) (w : World) (h : Row (Kn.int .i64) w ok A n xs) (b : Bool) (hb : decide (x ∈ xs) = b) :
    Calls Try.prog 33 #[.slice A n c, .int .i64 x] w fun e w' => e = .returned (.bool b) ∧ w' = w :=
  (contains_any A n c ok xs x w h).mono fun _ _ ⟨h1, h2⟩ => ⟨by rw [h1, hb], h2.symm⟩

set_option maxRecDepth 100000 in
set_option maxHeartbeats 4000000 in
theorem lacks_any (g : Goal) (A1 : Option Addr) (c1 : Nat) (A2 : Option Addr) (c2 : Nat) (A3 : Option Addr) (c3 : Nat) (A4 : Option Addr) (nl c4 : Nat) (list : List Hold) (A5 : Option Addr) (nd c5 : Nat) (devs : List Int) (ok : Nat → Prop) (w : World)
    (hg : GoalIn w ok g A1 c1 A2 c2 A3 c3) (hh : Row kHold w ok A4 nl list) (hd : Row (Kn.int .i64) w ok A5 nd devs) (hpos : ∀ n ∈ g.needs, 0 ≤ n.2 ∧ n.2 ≤ 1000) (hthr : 0 ≤ g.thr ∧ g.thr ≤ 1000) (hsz : g.needs.length * 8 ≤ 140737488355328) :
    Calls Try.prog 50 #[.agg (goalCells g A1 c1 A2 c2 A3 c3), .slice A4 nl c4, .slice A5 nd c5] w fun e w' => ∃ v, e = .returned (.tuple #[v, .int .i64 (lackShares g list devs), .int .i64 (lackIdx g list devs)]) ∧ Own (Kn.int .i64) 3 w' w.heap.size v (lackNeeds g list devs) ∧ Below w.heap.size w w' := by
  have hb0 : Below w.heap.size w (w.alloc (.cells (goalCells g A1 c1 A2 c2 A3 c3) 38)) := (Below.refl _ _).alloc (Nat.le_refl _) _
  have HG := As.mk hg
  have HH := As.mk hh
  have HD := As.mk hd
  have HP := As.mk hpos
  have HT := As.mk hthr
  have HSZ := As.mk hsz
  have hm1 := hg.n.2.1
  have hm4 := hh.2.1
  have hm5 := hd.2.1
  clear hg hh hd hpos hthr hsz
  go_enter Try.func50, Try.ntmps50
  go_wp2
  have HB0 := As.mk hb0
  clear hb0
  go_loopw [9, 10] (fun v i' wr => ∃ k : Nat, k ≤ g.needs.length ∧ i' = .int .i64 k ∧ Own (Kn.int .i64) 3 wr (w.heap.size + 1) v ((lackNeeds g list devs).take k) ∧ Below w.heap.size w wr ∧ As (wr.heap[w.heap.size]? = some (.cells (goalCells g A1 c1 A2 c2 A3 c3) 38 (0, 0)))) (fun _ i' _ => g.needs.length - (intOf i').toNat)
  case atStart =>
    refine ⟨0, Nat.zero_le _, rfl, ?_, HB0.o.alloc (by simp) _, ⟨?_⟩⟩
    · have := Own.empty (Kn.int .i64) 3 (w.alloc (.cells (goalCells g A1 c1 A2 c2 A3 c3) 38)) (w.heap.size + 1) (by simp)
      simpa using this
    · rw [Below.heap_alloc _ _ _ (by simp), heap_alloc_new]
  case round =>
    obtain ⟨k, hk, rfl, ho, hb, BX⟩ := hrel
    have hBl : w.heap.size < wr.heap.size := (Array.getElem?_eq_some_iff.1 BX.o).1
    by_cases hlt : k < g.needs.length
    · have bx0 : wr.cell? ⟨w.heap.size, 0, none⟩ = some (.slice A1 g.needs.length c1) := (cell_of_row _ _ 0 _ _ _ BX.o).trans rfl
      have bx3 : wr.cell? ⟨w.heap.size, 3, none⟩ = some (.slice A2 g.pieces.length c2) := (cell_of_row _ _ 3 _ _ _ BX.o).trans rfl
      obtain ⟨ad, e1, _, hlt', p0, p1⟩ := rowPiece (HG.o.below hb).n k hlt
      subst e1
      have HY : As (0 ≤ (pg g.needs k).2 ∧ (pg g.needs k).2 ≤ 1000) := ⟨HP.o _ (by rw [pg_eq _ _ hlt]; exact List.getElem_mem hlt)⟩
      have HN : As ((lackNeeds g list devs).take (k + 1) = (lackNeeds g list devs).take k ++ [lackNeed g list devs (pg g.needs k)]) := ⟨by
        unfold lackNeeds
        rw [← List.map_take, ← List.map_take, List.take_succ_eq_append_getElem hlt, List.map_append, pg_eq _ _ hlt]
        rfl⟩
      have HO := As.mk ho
      have HB := As.mk hb
      clear ho hb
      generalize pg g.needs k = y at *
      obtain ⟨wo, rfl⟩ : ∃ wo : World, wo = wr := ⟨_, rfl⟩
      go_wp2
      go_loopw [11, 12] (fun n' i' wr => ∃ q : Nat, q ≤ 16 ∧ i' = .int .i64 q ∧ n' = .int .i64 (subN y.2 (cntTo g list devs y.1 q)) ∧ Below wo.heap.size wo wr) (fun _ i' _ => 16 - (intOf i').toNat)
      case atStart => exact ⟨0, by omega, rfl, by rw [cntTo, subN_zero _ HY.o.1], Below.refl _ _⟩
      case round =>
        obtain ⟨q, hq, rfl, rfl, hb2⟩ := hrel
        have bx0' := (hb2.cell (p := ⟨w.heap.size, 0, none⟩) hBl).trans bx0
        have bx3' := (hb2.cell (p := ⟨w.heap.size, 3, none⟩) hBl).trans bx3
        have p0' := (hb2.cell (by rw [block_add]; exact hlt')).trans p0
        have p1' := (hb2.cell (by rw [block_add]; exact hlt')).trans p1
        have hBr : w.heap.size < wr.heap.size := Nat.lt_of_lt_of_le hBl hb2.size
        by_cases hq16 : q < 16
        · have HQ := As.mk (thereTo_zero (g := g) (list := list) (devs := devs) (p := (y.1, (q : Int))))
          have HA := As.mk (thereTo_all (g := g) (list := list) (devs := devs) (p := (y.1, (q : Int))) (m := nl) (by rw [HH.o.1]; exact Nat.le_refl _))
          have HC : As (cntTo g list devs y.1 (q + 1) = cntTo g list devs y.1 q + if there g list devs (y.1, (q : Int)) then 1 else 0) := ⟨rfl⟩
          have HS := As.mk (subN_succ y.2 (cntTo g list devs y.1 q))
          have HNN := subN_nn y.2 (cntTo g list devs y.1 q)
          have HNM : subN y.2 (cntTo g list devs y.1 q) ≤ 1000 := Int.le_trans (subN_le _ _ HY.o.1) HY.o.2
          have HPW := As.mk (((HG.o.below HB.o).below hb2).p)
          have HB2 := As.mk hb2
          generalize cntTo g list devs y.1 q = cq at *
          generalize hsub : subN y.2 cq = sq at *
          have HSQ := As.mk hsub
          clear hsub hb2
          obtain ⟨wm, rfl⟩ : ∃ wm : World, wm = wr := ⟨_, rfl⟩
          go_wp2_with (go_at_call 51; refine (has_any _ _ _ ok _ _ _ _ (HPW.o.below ((Below.refl _ _).alloc (Nat.le_refl _) _))).mono ?_; rintro e w3 ⟨rfl, hb3⟩)
          have hP3 : w3.heap[wm.heap.size]? = some (.cells #[.string y.1, .int .i64 (q : Int)] 52 (0, 0)) := (hb3.block _ (by simp)).trans (heap_alloc_new _ _)
          have q0 : w3.cell? ⟨wm.heap.size, 0, none⟩ = some (.string y.1) := (cell_of_row _ _ 0 _ _ _ hP3).trans rfl
          have q1 : w3.cell? ⟨wm.heap.size, 1, none⟩ = some (.int .i64 (q : Int)) := (cell_of_row _ _ 1 _ _ _ hP3).trans rfl
          have hr3 : wm.heap.size < w3.heap.size := (Array.getElem?_eq_some_iff.1 hP3).1
          have HB3 : As (Below wm.heap.size wm w3) := ⟨((Below.refl _ wm).alloc (Nat.le_refl _) _).trans (hb3.mono (by simp))⟩
          have HHW := As.mk ((((HH.o.below HB.o).below HB2.o)).below HB3.o)
          have HDW := As.mk ((((HD.o.below HB.o).below HB2.o)).below HB3.o)
          clear hb3 hP3
          go_loopw [14, 15] (fun b' i' wr' => ∃ m : Nat, m ≤ nl ∧ i' = .int .i64 m ∧ (∃ b, b' = .bool b ∧ Bif b (thereTo g list devs (y.1, (q : Int)) m)) ∧ Below w3.heap.size w3 wr') (fun _ i' _ => nl - (intOf i').toNat)
          case atStart => exact ⟨0, by omega, rfl, ⟨_, rfl, by rw [HQ.o]; exact Bif.of⟩, Below.refl _ _⟩
          case round =>
            obtain ⟨m, hm, rfl, ⟨b, rfl, hbt⟩, hb5⟩ := hrel
            by_cases hml : m < nl
            · have hst := thereTo_succ (g := g) (devs := devs) (p := (y.1, (q : Int))) (show m < list.length by rw [HH.o.1]; exact hml)
              have HH5 := HHW.o.below hb5
              have HD5 := HDW.o.below hb5
              obtain ⟨ad4, B1, d1, B2, d2, e4, _, hl4, r0, r1, r2, r3, hd1, R1, hd2, R2⟩ := rowHold HH5 m hml
              subst e4
              have q0' := (hb5.cell (p := ⟨wm.heap.size, 0, none⟩) hr3).trans q0
              have q1' := (hb5.cell (p := ⟨wm.heap.size, 1, none⟩) hr3).trans q1
              have HST := As.mk hst
              clear hst
              generalize hgt list m = z at *
              cases b with
              | true =>
                have HN2 : Bif true (thereTo g list devs (y.1, (q : Int)) (m + 1)) := Bif.t (HST.o.2 (.inl hbt.yes))
                clear R1 R2 HH5 HD5
                go_wp2
                go_quiet (fail)
                go_wp2
                go_roundw
                case rel => exact ⟨m + 1, by omega, by go_num, ⟨_, rfl, HN2⟩, below_drewN hb5 _⟩
                case measure => simp [intOf]; omega
              | false =>
                by_cases hC : z.dev ∈ devs
                · have HCC := As.mk (decide_eq_true hC)
                  have HR1 := As.mk R1
                  have HD6 := As.mk HD5
                  have HCM := As.mk hC
                  clear hC R1 R2 HH5 HD5
                  go_wp2
                  have HN2 : Bif (decide ((y.1, (q : Int)) ∈ z.pieces)) (thereTo g list devs (y.1, (q : Int)) (m + 1)) := by
                    rw [HST.o]
                    by_cases hP : (y.1, (q : Int)) ∈ z.pieces
                    · rw [decide_eq_true hP]; exact Bif.t (.inr ⟨HCM.o, hP⟩)
                    · rw [decide_eq_false hP]; exact Bif.f fun h => h.elim hbt.no fun h => hP h.2
                  go_still_tail 16, (by kernel_rfl)
                  still_call (contains_q _ _ _ _ _ _ _ (HD6.o.below (Below.refl _ _).drew) _ HCC.o)
                  repeat still_step
                  try refine wpStill_nil ?_
                  change wpList _ _ _ _ _ wr.drew
                  go_wp2_with (go_at_call 51; refine (has_any _ _ _ ok _ _ _ _ (HR1.o.below (Below.refl _ _).drew)).mono ?_; rintro e w6 ⟨rfl, hb6⟩)
                  go_roundw
                  case rel => exact ⟨m + 1, by omega, by go_num, ⟨_, rfl, HN2⟩, bthen hb5.drew hb6 (Nat.le_refl _)⟩
                  case measure => simp [intOf]; omega
                · have HCC := As.mk (decide_eq_false hC)
                  have HN2 : Bif false (thereTo g list devs (y.1, (q : Int)) (m + 1)) := Bif.f (fun h => (HST.o.1 h).elim hbt.no fun h => hC h.1)
                  have HD6 := As.mk HD5
                  clear hC R1 R2 HH5 HD5
                  go_wp2
                  go_quiet ((go_at_call 33; exact Calls.quiet_of_same (contains_q _ _ _ _ _ _ _ (HD6.o.below (below_drewN (Below.refl _ _) _)) _ HCC.o)))
                  go_wp2
                  go_roundw
                  case rel => exact ⟨m + 1, by omega, by go_num, ⟨_, rfl, HN2⟩, below_drewN hb5 _⟩
                  case measure => simp [intOf]; omega
            · have HT0 : Bif b (there g list devs (y.1, (q : Int))) := hbt.trans ((show m = nl by omega) ▸ HA.o)
              have HBB := As.mk (HB2.o.trans ((HB3.o.trans (hb5.mono (Nat.le_of_lt hr3))).mono HB2.o.size))
              cases b with
              | true =>
                have HC1 : As (subN y.2 (cntTo g list devs y.1 (q + 1)) = if 0 < sq then sq - 1 else sq) := ⟨by rw [HC.o, if_pos HT0.yes]; exact HS.o⟩
                by_cases hs0 : 0 < sq
                · have HC2 : As (subN y.2 (cntTo g list devs y.1 (q + 1)) = sq - 1) := ⟨by rw [HC1.o, if_pos hs0]⟩
                  have hd0 : decide (0 < sq) = true := decide_eq_true hs0
                  go_wp2
                  go_roundw
                  case rel => exact ⟨q + 1, by omega, by go_num, by rw [HC2.o], HBB.o⟩
                  case measure => simp [intOf]; omega
                · have HC2 : As (subN y.2 (cntTo g list devs y.1 (q + 1)) = sq) := ⟨by rw [HC1.o, if_neg hs0]⟩
                  have hd0 : decide (0 < sq) = false := decide_eq_false hs0
                  go_wp2
                  go_roundw
                  case rel => exact ⟨q + 1, by omega, by go_num, by rw [HC2.o], HBB.o⟩
                  case measure => simp [intOf]; omega
              | false =>
                have HC2 : As (subN y.2 (cntTo g list devs y.1 (q + 1)) = sq) := ⟨by rw [HC.o, if_neg HT0.no]; exact HSQ.o⟩
                go_wp2
                go_roundw
                case rel => exact ⟨q + 1, by omega, by go_num, by rw [HC2.o], HBB.o⟩
                case measure => simp [intOf]; omega
        · have e16 : q = 16 := by omega
          subst e16
          have HO2 := As.mk (HO.o.below hb2)
          have HLEN : (lackNeeds g list devs).length = g.needs.length := by simp [lackNeeds]
          have HL2 : ((lackNeeds g list devs).take k).length ≤ k := by rw [List.length_take]; omega
          have HSZ2 := HSZ.o
          go_wp2_with (at_builtin; refine app_one (Kn.int .i64) (w.heap.size + 1) rfl (.tmp 84) (.tmp 86) 24 (.int .i64 0) 8 rfl Try.underlying24 info_int rfl (by decide) u9 _ (lackNeed g list devs y) _ rfl rfl HO2.o rfl (Nat.le_trans hBl hb2.size) (by omega) (by omega) ?_; intro v1 w1 HO1 hg1 hat1)
          have HOF := As.mk HO1
          have hbw := HO2.o.base_le hg1 (Nat.le_refl _) (Nat.le_trans hBl hb2.size)
          have hb20 : Below (w.heap.size + 1) wo wr := hb2.mono hBl
          have HBF := As.mk (HB.o.trans ((hb20.trans hbw).mono (by omega)))
          have HBX := As.mk (((hb20.trans hbw).block w.heap.size (by omega)).trans BX.o)
          go_roundw
          case rel => exact ⟨k + 1, by omega, by go_num, by rw [HN.o]; exact HOF.o, HBF.o, HBX⟩
          case measure => simp [intOf]; omega
    · have ek : k = g.needs.length := by omega
      subst ek
      have HO9 : As (Own (Kn.int .i64) 3 wr w.heap.size u9 (lackNeeds g list devs)) := ⟨by
        have := ho.lower (Nat.le_succ _)
        rwa [List.take_of_length_le (by simp [lackNeeds])] at this⟩
      have HB := As.mk hb
      clear ho hb
      have bx0 : wr.cell? ⟨w.heap.size, 0, none⟩ = some (.slice A1 g.needs.length c1) := (cell_of_row _ _ 0 _ _ _ BX.o).trans rfl
      have bx1 : wr.cell? ⟨w.heap.size, 1, none⟩ = some (.int .i64 g.thr) := (cell_of_row _ _ 1 _ _ _ BX.o).trans rfl
      have bx2 : wr.cell? ⟨w.heap.size, 2, none⟩ = some (.bool g.index) := (cell_of_row _ _ 2 _ _ _ BX.o).trans rfl
      have bx4 : wr.cell? ⟨w.heap.size, 4, none⟩ = some (.slice A3 g.shares.length c3) := (cell_of_row _ _ 4 _ _ _ BX.o).trans rfl
      obtain ⟨wo, rfl⟩ : ∃ wo : World, wo = wr := ⟨_, rfl⟩
      go_wp2
      have HHW := As.mk (HH.o.below HB.o)
      have HDW := As.mk (HD.o.below HB.o)
      have HSW := As.mk (HG.o.below HB.o).s
      go_loop [16, 17] (fun s' x' => ∃ q : Nat, q ≤ 255 ∧ x' = .int .i64 ((q : Int) + 1) ∧ s' = .int .i64 (subN g.thr (shrTo g list devs q))) (fun _ x' => 256 - (intOf x').toNat)
      case atStart => exact ⟨0, by omega, rfl, by rw [shrTo, subN_zero _ HT.o.1]⟩
      case round =>
        obtain ⟨q, hq, rfl, rfl⟩ := hrel
        by_cases hq16 : q < 255
        · have HQ := As.mk (hasTo_zero (g := g) (list := list) (devs := devs) (x := (q : Int) + 1))
          have HA := As.mk (hasTo_all (g := g) (list := list) (devs := devs) (x := (q : Int) + 1) (m := nl) (by rw [HH.o.1]; exact Nat.le_refl _))
          have HC : As (shrTo g list devs (q + 1) = shrTo g list devs q + if hasShare g list devs ((q : Int) + 1) then 1 else 0) := ⟨rfl⟩
          have HS := As.mk (subN_succ g.thr (shrTo g list devs q))
          have HNN := subN_nn g.thr (shrTo g list devs q)
          have HNM : subN g.thr (shrTo g list devs q) ≤ 1000 := Int.le_trans (subN_le _ _ HT.o.1) HT.o.2
          generalize shrTo g list devs q = cq at *
          generalize hsub : subN g.thr cq = sq at *
          have HSQ := As.mk hsub
          clear hsub
          go_wp2_with (go_at_call 33; refine (contains_any _ _ _ ok _ _ _ HSW.o).mono ?_; rintro e w3 ⟨rfl, rfl⟩)
          go_loop [18, 19] (fun b' i' => ∃ m : Nat, m ≤ nl ∧ i' = .int .i64 m ∧ (∃ b, b' = .bool b ∧ Bif b (hasTo g list devs ((q : Int) + 1) m))) (fun _ i' => nl - (intOf i').toNat)
          case atStart => exact ⟨0, by omega, rfl, ⟨_, rfl, by rw [HQ.o]; exact Bif.of⟩⟩
          case round =>
            obtain ⟨m, hm, rfl, ⟨b, rfl, hbt⟩⟩ := hrel
            by_cases hml : m < nl
            · have hst := hasTo_succ (g := g) (devs := devs) (x := (q : Int) + 1) (show m < list.length by rw [HH.o.1]; exact hml)
              obtain ⟨ad4, B1, d1, B2, d2, e4, _, hl4, r0, r1, r2, r3, hd1, R1, hd2, R2⟩ := rowHold HHW.o m hml
              subst e4
              have HST := As.mk hst
              have HR2 := As.mk R2
              clear hst R1 R2
              generalize hgt list m = z at *
              cases b with
              | true =>
                have HN2 : Bif true (hasTo g list devs ((q : Int) + 1) (m + 1)) := Bif.t (HST.o.2 (.inl hbt.yes))
                go_wp2
                go_round
                case rel => exact ⟨m + 1, by omega, by go_num, ⟨_, rfl, HN2⟩⟩
                case measure => simp [intOf]; omega
              | false =>
                by_cases hC : z.dev ∈ devs
                · have HN2 : Bif (decide (((q : Int) + 1) ∈ z.shares)) (hasTo g list devs ((q : Int) + 1) (m + 1)) := by
                    rw [HST.o]
                    by_cases hP : ((q : Int) + 1) ∈ z.shares
                    · rw [decide_eq_true hP]; exact Bif.t (.inr ⟨hC, hP⟩)
                    · rw [decide_eq_false hP]; exact Bif.f fun h => h.elim hbt.no fun h => hP h.2
                  have HCC := As.mk (decide_eq_true hC)
                  clear hC
                  go_wp2_with fail
                  refine (contains_q A5 nd c5 ok devs z.dev _ HDW.o _ HCC.o).mono ?_
                  rintro e w3 ⟨rfl, rfl⟩
                  go_wp2_with fail
                  refine (contains_any B2 _ d2 ok z.shares _ _ HR2.o).mono ?_
                  rintro e w3 ⟨rfl, rfl⟩
                  go_wp2_with fail
                  go_round
                  case rel => exact ⟨m + 1, by omega, by go_num, ⟨_, rfl, HN2⟩⟩
                  case measure => simp [intOf]; omega
                · have HCC := As.mk (decide_eq_false hC)
                  have HN2 : Bif false (hasTo g list devs ((q : Int) + 1) (m + 1)) := Bif.f (fun h => (HST.o.1 h).elim hbt.no fun h => hC h.1)
                  clear hC
                  go_wp2_with (go_at_call 33; refine (contains_q A5 nd c5 ok devs z.dev _ HDW.o _ HCC.o).mono ?_; rintro e w3 ⟨rfl, rfl⟩)
                  go_round
                  case rel => exact ⟨m + 1, by omega, by go_num, ⟨_, rfl, HN2⟩⟩
                  case measure => simp [intOf]; omega
            · have HT0 : Bif b (hasShare g list devs ((q : Int) + 1)) := hbt.trans ((show m = nl by omega) ▸ HA.o)
              cases b with
              | true =>
                have HC1 : As (subN g.thr (shrTo g list devs (q + 1)) = if 0 < sq then sq - 1 else sq) := ⟨by rw [HC.o, if_pos HT0.yes]; exact HS.o⟩
                by_cases hs0 : 0 < sq
                · have HC2 : As (subN g.thr (shrTo g list devs (q + 1)) = sq - 1) := ⟨by rw [HC1.o, if_pos hs0]⟩
                  have hd0 : decide (0 < sq) = true := decide_eq_true hs0
                  go_wp2
                  go_round
                  case rel => exact ⟨q + 1, by omega, by go_num, by rw [HC2.o]⟩
                  case measure => simp [intOf]; omega
                · have HC2 : As (subN g.thr (shrTo g list devs (q + 1)) = sq) := ⟨by rw [HC1.o, if_neg hs0]⟩
                  have hd0 : decide (0 < sq) = false := decide_eq_false hs0
                  go_wp2
                  go_round
                  case rel => exact ⟨q + 1, by omega, by go_num, by rw [HC2.o]⟩
                  case measure => simp [intOf]; omega
              | false =>
                have HC2 : As (subN g.thr (shrTo g list devs (q + 1)) = sq) := ⟨by rw [HC.o, if_neg HT0.no]; exact HSQ.o⟩
                go_wp2
                go_round
                case rel => exact ⟨q + 1, by omega, by go_num, by rw [HC2.o]⟩
                case measure => simp [intOf]; omega
        · have e255 : q = 255 := by omega
          subst e255
          have HF : As (subN g.thr (shrTo g list devs 255) = lackShares g list devs) := ⟨rfl⟩
          have HIS : As (Bif g.index (idxTo g list devs 0)) := ⟨by rw [idxTo_zero]; exact Iff.rfl⟩
          generalize subN g.thr (shrTo g list devs 255) = ls at *
          cases hgi : g.index with
          | true =>
            rw [hgi] at bx2 HIS
            have HI0 := As.mk (idxN_yes HIS.o.yes)
            clear hgi
            go_wp2
            go_loop [20, 21] (fun b' i' => ∃ m : Nat, m ≤ nl ∧ i' = .int .i64 m ∧ b' = .int .i64 (idxN g list devs m)) (fun _ i' => nl - (intOf i').toNat)
            case atStart => exact ⟨0, by omega, rfl, by rw [HI0.o]⟩
            case round =>
              obtain ⟨m, hm, rfl, rfl⟩ := hrel
              by_cases hml : m < nl
              · have HST := As.mk (idxTo_succ (g := g) (devs := devs) (show m < list.length by rw [HH.o.1]; exact hml))
                obtain ⟨ad4, B1, d1, B2, d2, e4, _, hl4, r0, r1, r2, r3, hd1, R1, hd2, R2⟩ := rowHold HHW.o m hml
                subst e4
                clear R1 R2
                generalize hgt list m = z at *
                by_cases hC : z.dev ∈ devs
                · have HCC := As.mk (decide_eq_true hC)
                  cases hzi : z.index with
                  | true =>
                    have HN2 : As (idxN g list devs (m + 1) = 0) := ⟨idxN_no fun h => (HST.o.1 h).2 ⟨hC, hzi⟩⟩
                    rw [hzi] at r3
                    clear hC hzi
                    go_wp2_with (go_at_call 33; refine (contains_q A5 nd c5 ok devs z.dev _ HDW.o _ HCC.o).mono ?_; rintro e w3 ⟨rfl, rfl⟩)
                    go_round
                    case rel => exact ⟨m + 1, by omega, by go_num, by rw [HN2.o]⟩
                    case measure => simp [intOf]; omega
                  | false =>
                    have HN2 : As (idxN g list devs (m + 1) = idxN g list devs m) := ⟨idxN_same (HST.o.trans ⟨fun h => h.1, fun h => ⟨h, fun h' => by rw [hzi] at h'; cases h'.2⟩⟩)⟩
                    rw [hzi] at r3
                    clear hC hzi
                    generalize idxN g list devs m = iv at *
                    go_wp2_with (go_at_call 33; refine (contains_q A5 nd c5 ok devs z.dev _ HDW.o _ HCC.o).mono ?_; rintro e w3 ⟨rfl, rfl⟩)
                    go_round
                    case rel => exact ⟨m + 1, by omega, by go_num, by rw [HN2.o]⟩
                    case measure => simp [intOf]; omega
                · have HCC := As.mk (decide_eq_false hC)
                  have HN2 : As (idxN g list devs (m + 1) = idxN g list devs m) := ⟨idxN_same (HST.o.trans ⟨fun h => h.1, fun h => ⟨h, fun h' => hC h'.1⟩⟩)⟩
                  clear hC
                  generalize idxN g list devs m = iv at *
                  go_wp2_with (go_at_call 33; refine (contains_q A5 nd c5 ok devs z.dev _ HDW.o _ HCC.o).mono ?_; rintro e w3 ⟨rfl, rfl⟩)
                  go_round
                  case rel => exact ⟨m + 1, by omega, by go_num, by rw [HN2.o]⟩
                  case measure => simp [intOf]; omega
              · have HFI := As.mk (idxN_all (g := g) (devs := devs) (show list.length ≤ m by rw [HH.o.1]; omega))
                generalize idxN g list devs m = iv at *
                go_wp2
                go_ret3
                exact ⟨_, by rw [← HF.o, ← HFI.o]; rfl, HO9.o, HB.o⟩
          | false =>
            rw [hgi] at bx2 HIS
            have HI0 := As.mk (idxN_no HIS.o.no)
            clear hgi
            go_wp2
            go_loop [20, 21] (fun b' i' => ∃ m : Nat, m ≤ nl ∧ i' = .int .i64 m ∧ b' = .int .i64 (idxN g list devs m)) (fun _ i' => nl - (intOf i').toNat)
            case atStart => exact ⟨0, by omega, rfl, by rw [HI0.o]⟩
            case round =>
              obtain ⟨m, hm, rfl, rfl⟩ := hrel
              by_cases hml : m < nl
              · have HST := As.mk (idxTo_succ (g := g) (devs := devs) (show m < list.length by rw [HH.o.1]; exact hml))
                obtain ⟨ad4, B1, d1, B2, d2, e4, _, hl4, r0, r1, r2, r3, hd1, R1, hd2, R2⟩ := rowHold HHW.o m hml
                subst e4
                clear R1 R2
                generalize hgt list m = z at *
                by_cases hC : z.dev ∈ devs
                · have HCC := As.mk (decide_eq_true hC)
                  cases hzi : z.index with
                  | true =>
                    have HN2 : As (idxN g list devs (m + 1) = 0) := ⟨idxN_no fun h => (HST.o.1 h).2 ⟨hC, hzi⟩⟩
                    rw [hzi] at r3
                    clear hC hzi
                    go_wp2_with (go_at_call 33; refine (contains_q A5 nd c5 ok devs z.dev _ HDW.o _ HCC.o).mono ?_; rintro e w3 ⟨rfl, rfl⟩)
                    go_round
                    case rel => exact ⟨m + 1, by omega, by go_num, by rw [HN2.o]⟩
                    case measure => simp [intOf]; omega
                  | false =>
                    have HN2 : As (idxN g list devs (m + 1) = idxN g list devs m) := ⟨idxN_same (HST.o.trans ⟨fun h => h.1, fun h => ⟨h, fun h' => by rw [hzi] at h'; cases h'.2⟩⟩)⟩
                    rw [hzi] at r3
                    clear hC hzi
                    generalize idxN g list devs m = iv at *
                    go_wp2_with (go_at_call 33; refine (contains_q A5 nd c5 ok devs z.dev _ HDW.o _ HCC.o).mono ?_; rintro e w3 ⟨rfl, rfl⟩)
                    go_round
                    case rel => exact ⟨m + 1, by omega, by go_num, by rw [HN2.o]⟩
                    case measure => simp [intOf]; omega
                · have HCC := As.mk (decide_eq_false hC)
                  have HN2 : As (idxN g list devs (m + 1) = idxN g list devs m) := ⟨idxN_same (HST.o.trans ⟨fun h => h.1, fun h => ⟨h, fun h' => hC h'.1⟩⟩)⟩
                  clear hC
                  generalize idxN g list devs m = iv at *
                  go_wp2_with (go_at_call 33; refine (contains_q A5 nd c5 ok devs z.dev _ HDW.o _ HCC.o).mono ?_; rintro e w3 ⟨rfl, rfl⟩)
                  go_round
                  case rel => exact ⟨m + 1, by omega, by go_num, by rw [HN2.o]⟩
                  case measure => simp [intOf]; omega
              · have HFI := As.mk (idxN_all (g := g) (devs := devs) (show list.length ≤ m by rw [HH.o.1]; omega))
                generalize idxN g list devs m = iv at *
                go_wp2
                go_ret3
                exact ⟨_, by rw [← HF.o, ← HFI.o]; rfl, HO9.o, HB.o⟩
end Go.Proofs.Ytlinhckgdfhppaa
