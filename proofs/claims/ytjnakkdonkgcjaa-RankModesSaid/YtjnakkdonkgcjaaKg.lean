/- Nth: its refusals; the digits of an index. -/
import Derived.Test.YtjnakkdonkgcjaaKh
namespace Go.Proofs.Ytjnakkdonkgcjaa
open Go.RowKit Go.Shelf
attribute [local go_sem] Oper.semAt_some

set_option maxRecDepth 100000 in
theorem nth_wrong (A : Option Addr) (len cap : Nat) (l : List Int) (hlen : Hid (len = l.length)) (hr : Hid (rightL l = false)) (w : World) (hE : SRow w A l) (i : Int) :
    Calls Try.prog 18 #[.slice A len cap, .int .i64 i] w (Ret (.tuple #[.slice none 0 0, .int .i64 12]) w) := by
  go_enter Try.func18, Try.ntmps18
  go_wp2_with fail
  refine (count_wrong A len cap l hlen hr _ (hE.below (below_alloc (Below.refl _ _) _))).mono ?_
  rintro e w1 ⟨rfl, rfl⟩
  go_wp2_with fail
  go_ret2
  exact ⟨rfl, below_alloc (Below.refl _ _) _⟩
set_option maxRecDepth 100000 in
theorem nth_out (A : Option Addr) (len cap : Nat) (ns : List Nat) (hlen : Hid (len = ns.length)) (hr : Hid (LOk ns)) (w : World) (hE : SRow w A (castL ns)) (i : Int) (hi : i < 0 ∨ (0 ≤ i ∧ (prodN ns : Int) ≤ i)) :
    Calls Try.prog 18 #[.slice A len cap, .int .i64 i] w (Ret (.tuple #[.slice none 0 0, .int .i64 11]) w) := by
  obtain ⟨p, hp⟩ : ∃ p, prodN ns = p := ⟨_, rfl⟩
  rw [hp] at hi
  have HP := Lib.hid hp
  clear hp
  rcases hi with hi | ⟨hi1, hi2⟩
  all_goals
    go_enter Try.func18, Try.ntmps18
    go_wp2_with fail
    refine (count_ok A len cap ns hlen hr _ (hE.below (below_alloc (Below.refl _ _) _))).mono ?_
    rintro e w1 ⟨rfl, rfl⟩
    rw [HP.out]
    go_wp2_with fail
    go_ret2
    exact ⟨rfl, below_alloc (Below.refl _ _) _⟩

theorem kpB_b {n₀ Bs : Nat} {w : World} (hn : n₀ ≤ w.heap.size) (hBs : Bs < w.heap.size) (W : World) (l : Nat) (o o' : Obj) (hl : w.heap.size ≤ l) (h : W.heap[l]? = some o) (h1 : o.isCells = false) (h2 : o.isWalk = false) : KpB n₀ Bs W (W.putObj l o') :=
  ⟨belowK_b hn W l o o' hl h h1 h2, fun v hv => by
    have hb : Below w.heap.size W (W.putObj l o') := (Below.refl _ W).grown (grownBy_putObj' W l o') (by have := (Array.getElem?_eq_some_iff.1 h).1; omega) (fun k e => by cases e; exact hl)
    exact (hb.cell (p := ⟨Bs, 0, none⟩) hBs).trans hv⟩
theorem nums_of {w : World} {A : Option Addr} {ns : List Nat} {len : Nat} (hlen : len = ns.length) (hE : SRow w A (castL ns)) : Nums w.heap.size w A len ns := by
  rcases Nat.eq_zero_or_pos len with h | h
  · exact .inl h
  · obtain ⟨b, o, rfl, d⟩ := hE 0 (by rw [castL_length]; omega)
    refine .inr ⟨b, o, rfl, World.block_lt_of_cell? _ _ d, fun j hj => ?_⟩
    obtain ⟨b', o', he, d'⟩ := hE j (by rw [castL_length]; omega)
    simp at he
    obtain ⟨rfl, rfl⟩ := he
    rw [d', castL_getD]
    simp [List.getD_eq_getElem?_getD]

/-- the state of the loop when pre has come: what is left of the index, the digits -/
def nthSt (ns : List Nat) (len i : Nat) : List (Fin len) → Nat × (Nat → Nat) := fun pre =>
  pre.foldl (fun s x => (s.1 / (ns[x.val]?.getD 0), fun j => if j = x.val then s.1 % (ns[x.val]?.getD 0) else s.2 j)) (i, fun _ => 0)
theorem nthSt_snoc (ns : List Nat) (len i : Nat) (pre : List (Fin len)) (x : Fin len) : nthSt ns len i (pre ++ [x]) = ((nthSt ns len i pre).1 / (ns[x.val]?.getD 0), fun j => if j = x.val then (nthSt ns len i pre).1 % (ns[x.val]?.getD 0) else (nthSt ns len i pre).2 j) := by
  simp [nthSt, List.foldl_append]
def nthF (ns : List Nat) (len i : Nat) : Nat → Nat := (nthSt ns len i (dn len len)).2

set_option maxRecDepth 100000 in
set_option maxHeartbeats 4000000 in
theorem nth_ok (A : Option Addr) (len cap : Nat) (ns : List Nat) (hlen : Hid (len = ns.length)) (hr : Hid (LOk ns)) (w : World) (hE : SRow w A (castL ns)) (i : Nat) (hi : i < prodN ns) :
    Calls Try.prog 18 #[.slice A len cap, .int .i64 i] w fun e w' => ∃ b, e = .returned (.tuple #[.slice (some ⟨b, 0, none⟩) len len, .int .i64 0]) ∧ w'.rowIs b 3 len (fun j => .int .i64 (nthF ns len i j : Nat)) ∧ Below w.heap.size w w' := by
  obtain ⟨p, hp⟩ : ∃ p, prodN ns = p := ⟨_, rfl⟩
  rw [hp] at hi
  have HP := Lib.hid hp
  clear hp
  have hl12 : len ≤ 12 := by rw [hlen.out]; exact hr.out.hl
  have hi0 : (0 : Int) ≤ i := by omega
  have hi1 : (i : Int) < (p : Int) := by omega
  have hmk := run_make_row' (P := Try.prog) 23 3 (.int .i64 0) 8 Try.underlying23 info3 rfl .i64 .i64 len (by omega) (by omega)
  have hro : Fence.wide.round = none := rfl
  have hw1 : 1 ≤ 5 := by decide
  refine (callsIn_wide (n := 5)).1 ?_
  refine callsIn_of_wp_marks Try.func18 rfl trivial ?_ hro
  simp only [Try.ntmps18, List.size_toArray, List.length_cons, List.length_nil, Nat.reduceAdd, Nat.reduceSub, Array.replicate_succ, Array.replicate_zero, List.push_toArray, List.append_toArray, List.nil_append, List.cons_append]
  gi_wp2_with fail
  refine ⟨trivial, ?_⟩
  refine (callsIn_wide.2 (count_ok A len cap ns hlen hr _ (hE.below (below_alloc (Below.refl _ _) _)))).mono ?_
  rintro e w1 ⟨rfl, rfl⟩
  rw [HP.out]
  gi_wp2_with fail
  refine ⟨trivial, ?_⟩
  refine (back_in _ _ trivial hro _ _ _ _).mono ?_
  rintro e w1 ⟨rfl, rfl⟩
  gi_wp2_with fail
  obtain ⟨wL, hwL⟩ : ∃ wL, ((((w.alloc (Obj.cells #[Value.int IntKind.i64 i] 3)).alloc (Obj.cells (madeCells #[Value.int IntKind.i64 0] len) 3)).alloc (Obj.cells #[Value.slice (some ⟨w.heap.size + 1, 0, none⟩) len len] 23)).alloc (Obj.cells #[Value.slice A len cap] 23)) = wL := ⟨_, rfl⟩
  rw [hwL]
  have hbL : Below w.heap.size w wL := by rw [← hwL]; exact below_alloc (below_alloc (below_alloc (below_alloc (Below.refl _ _) _) _) _) _
  have hsL : wL.heap.size = w.heap.size + 4 := by rw [← hwL]; simp only [World.size_alloc]
  have hcL : wL.cell? ⟨w.heap.size + 1 + 1 + 1, 0, none⟩ = some (.slice A len cap) := by rw [← hwL]; exact World.cell?_alloc_at _ _ _ _ (by simp only [World.size_alloc])
  have hNL : Nums w.heap.size wL A len ns := (nums_of hlen.out hE).below hbL
  have h0L : wL.cell? ⟨w.heap.size, 0, none⟩ = some (.int .i64 i) ∧ wL.frozen? ⟨w.heap.size, 0, none⟩ = false ∧ wL.rowIs (w.heap.size + 1) 3 len (fun j => .int .i64 (((nthSt ns len i []).2 j : Nat) : Int)) ∧ wL.cell? ⟨w.heap.size + 1 + 1, 0, none⟩ = some (.slice (some ⟨w.heap.size + 1, 0, none⟩) len len) := by
    have hb1 : Below (w.heap.size + 1) (w.alloc (Obj.cells #[Value.int IntKind.i64 i] 3)) wL := by
      rw [← hwL]; exact (((Below.refl _ _).alloc (by simp) _).alloc (by simp) _).alloc (by simp) _
    have hb2 : Below (w.heap.size + 2) ((w.alloc (Obj.cells #[Value.int IntKind.i64 i] 3)).alloc (Obj.cells (madeCells #[Value.int IntKind.i64 0] len) 3)) wL := by
      rw [← hwL]; exact ((Below.refl _ _).alloc (by simp) _).alloc (by simp) _
    have hb3 : Below (w.heap.size + 3) (((w.alloc (Obj.cells #[Value.int IntKind.i64 i] 3)).alloc (Obj.cells (madeCells #[Value.int IntKind.i64 0] len) 3)).alloc (Obj.cells #[Value.slice (some ⟨w.heap.size + 1, 0, none⟩) len len] 23)) wL := by
      rw [← hwL]; exact (Below.refl _ _).alloc (by simp) _
    have hrow := World.rowIs_made (w.alloc (Obj.cells #[Value.int IntKind.i64 i] 3)) (.int .i64 0) len 3
    simp only [World.size_alloc] at hrow
    refine ⟨(hb1.cell (p := ⟨w.heap.size, 0, none⟩) (Nat.lt_succ_self _)).trans (World.cell?_alloc_at _ _ _ _ rfl), (hb1.frozen (p := ⟨w.heap.size, 0, none⟩) (Nat.lt_succ_self _)).trans (World.frozen?_alloc_at _ _ _ _ rfl), row_below hrow hb2 (by omega), ?_⟩
    exact (hb3.cell (p := ⟨w.heap.size + 1 + 1, 0, none⟩) (by show w.heap.size + 1 + 1 < _; omega)).trans (World.cell?_alloc_at _ _ _ _ (by simp only [World.size_alloc]))
  refine wpIn_rangeFunc_ownF hro hw1 (gf := 39) (lb := #[.pointer (some ⟨w.heap.size + 1 + 1 + 1, 0, none⟩)]) rfl trivial (enters_of Try.func39 (by kernel_rfl) rfl)
    (back_stops Fence.wide (5 - 1) trivial hro (by decide) (w.heap.size + 1 + 1 + 1) w.heap.size A len cap ns (by omega) wL (by omega) (by omega) hcL hNL) KpB.trans (kpB_b (by omega) (by omega)) (Below.refl _ _) (fun _ => rfl)
    (fun pre W => W.cell? ⟨w.heap.size, 0, none⟩ = some (.int .i64 ((nthSt ns len i pre).1 : Nat)) ∧ W.frozen? ⟨w.heap.size, 0, none⟩ = false ∧ W.rowIs (w.heap.size + 1) 3 len (fun j => .int .i64 (((nthSt ns len i pre).2 j : Nat) : Int)) ∧
      W.cell? ⟨w.heap.size + 1 + 1, 0, none⟩ = some (.slice (some ⟨w.heap.size + 1, 0, none⟩) len len) ∧ (nthSt ns len i pre).1 ≤ i ∧ w.heap.size + 4 ≤ W.heap.size ∧ Below w.heap.size w W)
    (fun _ _ _ => False) ?own (fun _ _ _ _ _ hs _ _ => hs) ⟨h0L.1, h0L.2.1, h0L.2.2.1, h0L.2.2.2, Nat.le_refl _, by omega, hbL⟩ ?myact ?assign ?body ?done ?stop
  case assign =>
    intro l x W K hK
    unfold encB
    gi_wp2
    exact hK
  case own =>
    rintro s X Y row ⟨g1, g2, g3, g4, g5, g6, g7⟩ hg hr
    have hb : Below (w.heap.size + 4) X Y := (Below.refl _ X).grown hg g6 (fun k e => by have := (hr k e).1; omega)
    exact ⟨(hb.cell (p := ⟨w.heap.size, 0, none⟩) (by show w.heap.size < _; omega)).trans g1, (hb.frozen (p := ⟨w.heap.size, 0, none⟩) (by show w.heap.size < _; omega)).trans g2, row_below g3 hb (by omega), (hb.cell (p := ⟨w.heap.size + 1 + 1, 0, none⟩) (by show w.heap.size + 1 + 1 < _; omega)).trans g4, g5, Nat.le_trans g6 hg.size, g7.trans (hb.mono (by omega))⟩
  case stop =>
    rintro D c pre W _ _ h _
    exact h.elim
  case body =>
    rintro l pre x W ⟨g1, g2, g3, g4, g5, g6, g7⟩ hpl
    have HS := Lib.hid (nthSt_snoc ns len i pre x)
    obtain ⟨xv, hx⟩ := x
    have hmem : ns[xv]?.getD 0 ∈ ns := by
      have h1 : xv < ns.length := by rw [← hlen.out]; exact hx
      rw [List.getElem?_eq_getElem h1]; exact List.getElem_mem h1
    have hd := hr.out.hk _ hmem
    simp only at HS
    obtain ⟨d, hdd⟩ : ∃ d, ns[xv]?.getD 0 = d := ⟨_, rfl⟩
    rw [hdd] at hd HS
    obtain ⟨q, hq⟩ : ∃ q, (nthSt ns len i pre).1 = q := ⟨_, rfl⟩
    obtain ⟨f, hf⟩ : ∃ f, (nthSt ns len i pre).2 = f := ⟨_, rfl⟩
    rw [hq, hf] at HS
    rw [hq] at g1 g5
    rw [hf] at g3
    have k1 : W.cell? ⟨w.heap.size + 1, xv, none⟩ = some (.int .i64 (f xv : Nat)) := g3.cell hx
    have k2 : W.frozen? ⟨w.heap.size + 1, xv, none⟩ = false := g3.frozen xv
    have hd0 : ((d : Int) == 0) = false := by simp; omega
    have hrem : (q : Int).tmod (d : Int) = ((q % d : Nat) : Int) := rfl
    have hquo : (q : Int).tdiv (d : Int) = ((q / d : Nat) : Int) := rfl
    have G3 := Lib.hid g3
    clear g3 hq hf hmem
    simp only [hdd]
    have hq9 : q ≤ 9000000000000 := by
      have h1 := (prodN_le hr.out.hk ns.length (Nat.le_refl _)).2
      rw [List.take_length, HP.out] at h1
      have h2 : 12 ^ ns.length ≤ 12 ^ 12 := Nat.pow_le_pow_right (by omega) hr.out.hl
      have h3 : (12 : Nat) ^ 12 ≤ 9000000000000 := by decide
      omega
    have hmx : Try.prog.follows .mixedOrders = true := by kernel_rfl
    have hx0 : (0 : Int) ≤ (xv : Int) := by omega
    have hx1 : (xv : Int) < (len : Int) := by omega
    gi_wp2
    gi_region_with_o (fail)
    all_goals
      gi_wp2
      (try go_bits)
      have hst := nth_step (xv := xv) (d := d) rfl hq9 g1 g2 G3.out g4 g6 g7 _ rfl
      refine ⟨hst.1, hst.2.1, ?_⟩
      dsimp only
      rw [HS.out]
      exact ⟨hst.2.2.1, hst.2.2.2.1, hst.2.2.2.2.1, hst.2.2.2.2.2.1, Nat.le_trans (Nat.div_le_self q d) g5, hst.2.2.2.2.2.2.1, hst.2.2.2.2.2.2.2⟩
  case done =>
    rintro D ys W hD rfl ⟨g1, g2, g3, g4, g5, g6, g7⟩ hK
    gi_wp2
    refine ⟨by simp, .inl ⟨_, _, rfl, run_takeDeferred hK, ?_⟩⟩
    have hb : Below (w.heap.size + 4) W (W.putObj D (Obj.deferred none)) := belowK_b (w := wL) (by omega) W D _ _ hD hK rfl rfl
    refine ⟨.tuple #[.slice (some ⟨w.heap.size + 1, 0, none⟩) len len, .int .i64 0], ?_, w.heap.size + 1, rfl, row_below g3 hb (by omega), g7.trans (hb.mono (by omega))⟩
    simp [results, Try.f18, go_sem]
end Go.Proofs.Ytjnakkdonkgcjaa
