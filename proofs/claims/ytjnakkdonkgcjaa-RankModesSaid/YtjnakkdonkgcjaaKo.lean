/- Clone; Next. -/
import Derived.Test.YtjnakkdonkgcjaaKn
import Derived.Shelf.RegionOpenPlain
import Derived.Lib.Walk
import Derived.Lib.SliceRun
namespace Go.Proofs.Ytjnakkdonkgcjaa
open Go.Shelf Go.RowKit Go.Lib

/-- a row of our own, of which the first n cells are the numbers f -/
def NRow (w : World) (g n : Nat) (f : Nat → Int) : Prop := ∃ cap F, n ≤ cap ∧ w.rowIs g 3 cap F ∧ ∀ j, j < n → F j = .int .i64 (f j)
theorem NRow.cell {w : World} {g n : Nat} {f : Nat → Int} (h : NRow w g n f) {j : Nat} (hj : j < n) : w.cell? ⟨g, j, none⟩ = some (.int .i64 (f j)) := by
  obtain ⟨cap, F, h1, h2, h3⟩ := h
  rw [h2.cell (by omega), h3 j hj]
theorem NRow.frozen {w : World} {g n : Nat} {f : Nat → Int} (h : NRow w g n f) (j : Nat) : w.frozen? ⟨g, j, none⟩ = false := by
  obtain ⟨cap, F, h1, h2, h3⟩ := h
  exact h2.frozen j
theorem NRow.set {w : World} {g n : Nat} {f : Nat → Int} (h : NRow w g n f) (i : Nat) (v : Int) : NRow (w.setCell ⟨g, i, none⟩ (.int .i64 v)) g n (fun j => if j = i then v else f j) := by
  obtain ⟨cap, F, h1, h2, h3⟩ := h
  exact ⟨cap, _, h1, h2.set i _, fun j hj => by dsimp only; split <;> simp_all⟩
theorem NRow.congr {w : World} {g n : Nat} {f f' : Nat → Int} (h : NRow w g n f) (e : ∀ j, j < n → f j = f' j) : NRow w g n f' := by
  obtain ⟨cap, F, h1, h2, h3⟩ := h
  exact ⟨cap, F, h1, h2, fun j hj => by rw [h3 j hj, e j hj]⟩
theorem NRow.srow {w : World} {g n : Nat} {f : Nat → Int} (h : NRow w g n f) {l : List Int} (hn : l.length = n) (hf : ∀ k, k < n → l.getD k 0 = f k) : SRow w (some ⟨g, 0, none⟩) l := fun k hk => by
  refine ⟨g, 0, rfl, ?_⟩
  rw [Nat.zero_add, hf k (by omega)]
  exact h.cell (by omega)
theorem NRow.drew {w : World} {g n : Nat} {f : Nat → Int} (h : NRow w g n f) : NRow w.drew g n f := h
theorem nrow_of {w : World} {B n : Nat} {v : Value} {l : List Int} (h : w.ownsRow B 3 1 v n (l.map (Value.int .i64))) (hnil : v ≠ .slice none 0 0) :
    ∃ g cap, v = .slice (some ⟨g, 0, none⟩) n cap ∧ B ≤ g ∧ g < w.heap.size ∧ NRow w g n (fun j => l.getD j 0) := by
  have hlt := h.lt
  obtain ⟨h1, h2⟩ := h
  rcases h2 with ⟨rfl, _⟩ | ⟨g, cap, cur, rfl, hb, hg, hn, hm, hs, ht⟩
  · exact (hnil rfl).elim
  · have hl : l.length = n := by simpa using h1
    refine ⟨g, cap, rfl, hb, (hlt g rfl).2, cap, fun j => cur.getD j (.int .i64 0), hn, ⟨cur, hg, by omega, fun i hi => ?_⟩, fun j hj => ?_⟩
    · simp [Array.getD, hi, hs]
    · have e : cur.toList[j]? = some (.int .i64 (l.getD j 0)) := by
        have e1 : (cur.toList.take (n * 1))[j]? = cur.toList[j]? := by rw [List.getElem?_take_of_lt (by omega)]
        rw [← e1, ht, List.getElem?_map, List.getElem?_eq_getElem (by omega), getD_in l 0 (by omega)]
        rfl
      have hj' : j < cur.size := by omega
      rw [List.getElem?_eq_getElem (by simpa using hj')] at e
      simp only [Array.getElem_toList, Option.some.injEq] at e
      simp [Array.getD, hj', e]

set_option maxHeartbeats 2000000 in
set_option maxRecDepth 100000 in
theorem clone_any (A : Addr) (n c : Nat) (l : List Int) (hlen : n = l.length) (hsm : n ≤ 1000000) (w : World) (hE : SRow w (some A) l) :
    Calls Try.prog 30 #[.slice (some A) n c] w fun e w' => ∃ g cap, e = .returned (.slice (some ⟨g, 0, none⟩) n cap) ∧ w.heap.size ≤ g ∧ g < w'.heap.size ∧ NRow w' g n (fun j => l.getD j 0) ∧ Below w.heap.size w w' := by
  obtain ⟨i0, hi, hz0, hz1, hz2⟩ := info_parts info3
  have mixed : Try.prog.follows .mixedOrders = true := by kernel_rfl
  have q23 : ∀ (w : World) (a : Option Addr) (n c n' c' : Nat), (binOp .eql 23 (.slice a n c) (.slice none n' c')).run Try.prog w = .ok (.bool a.isNone) w := fun w a n c n' c' => Lib.run_eql_slice_nil w _ _ a n c n' c' Try.underlying23
  have HE := Lib.hid hE
  have HL := Lib.hid hlen
  clear hE hlen
  go_enter Try.func30, Try.ntmps30
  go_wp2_with (at_builtin; refine wpList_append_own _ rfl _ _ 23 rfl w.heap.size 3 i0 (.int .i64 0) 1 8 Try.underlying23 hi hz0 hz1 hz2 rfl (by decide) _ _ _ rfl (World.ownsRow_made w #[] 0 (Nat.le_refl _) (Nat.zero_le _) rfl) A n c (l.map (Value.int .i64)) rfl ?qc1 ?qc2 ?qc3 ?qc4 ?qc5 ?qc6 ?_)
  case qc1 => have := HL.out; simp; omega
  case qc2 =>
    intro j u hj
    have hjl : j < l.length := by
      have := (List.getElem?_eq_some_iff.1 hj).1
      simpa using this
    obtain ⟨b, o, he, d⟩ := HE.out j hjl
    simp only [Option.some.injEq] at he
    subst he
    rw [Addr.add_lit]
    refine Lib.cell?_alloc_some _ ?_
    rw [d]
    rw [List.getElem?_map, List.getElem?_eq_getElem hjl, ← getD_in l 0 hjl] at hj
    exact hj
  case qc3 => intro u hu; obtain ⟨x, _, rfl⟩ := List.mem_map.1 hu; rfl
  case qc4 => unfold maxLen; omega
  case qc5 => omega
  case qc6 => simp
  intro v' w1 hown hgrow hnil
  go_wp2
  go_ret
  have hown' : w1.ownsRow w.heap.size 3 1 v' n (l.map (Value.int .i64)) := by simpa using hown
  obtain ⟨g, cap, h1, h2, h3, h4⟩ := nrow_of hown' (by first | exact hnil | exact fun e => absurd (hnil.1 e).1 (by simp))
  exact ⟨g, cap, by rw [h1]; rfl, h2, h3, h4, ((Below.refl _ w).alloc (Nat.le_refl _) _).grown hgrow (by simp) (by intro k hk; simp [Value.ownBlock] at hk; omega)⟩

/-! ### Next -/
set_option maxRecDepth 100000 in
theorem next_wrong (A B : Option Addr) (la lb ca cb : Nat) (l c : List Int) (ha : Hid (la = l.length)) (hb : Hid (lb = c.length)) (hr : Hid (choiceB l c = false)) (w : World) (hA : SRow w A l) (hB : SRow w B c) :
    Calls Try.prog 21 #[.slice A la ca, .slice B lb cb] w fun e w' => e = .returned (.tuple #[.slice none 0 0, .bool false]) ∧ w' = w := by
  go_enter Try.func21, Try.ntmps21
  go_wp2_with fail
  refine (choice_any A B la lb ca cb l c ha hb _ hA hB).mono ?_
  rintro e w1 ⟨rfl, rfl⟩
  rw [hr.out]
  go_wp2_with fail
  go_ret2
  exact ⟨rfl, rfl⟩
/-- the digits behind i stand at their last; the digit i does not -/
def NextAt (ns ds : List Nat) (i : Nat) : Prop := i < ns.length ∧ ds.getD i 0 + 1 < ns.getD i 0 ∧ ∀ j, i < j → j < ns.length → ds.getD j 0 + 1 = ns.getD j 0
def nextF (ds : List Nat) (i j : Nat) : Nat := if j < i then ds.getD j 0 else if j = i then ds.getD j 0 + 1 else 0
/-- what Next answers -/
def RetNext (ns ds : List Nat) (w : World) (e : Ending) (w' : World) : Prop :=
  Below w.heap.size w w' ∧ (((∀ j, j < ns.length → ds.getD j 0 + 1 = ns.getD j 0) ∧ e = .returned (.tuple #[.slice none 0 0, .bool false])) ∨
    (∃ i, NextAt ns ds i ∧ ∃ g cap, e = .returned (.tuple #[.slice (some ⟨g, 0, none⟩) ns.length cap, .bool true]) ∧ NRow w' g ns.length (fun j => (nextF ds i j : Nat))))

set_option maxHeartbeats 1000000 in
set_option maxRecDepth 100000 in
theorem next_ok (A : Option Addr) (B : Addr) (la lb ca cb : Nat) (ns ds : List Nat) (ha : Hid (la = ns.length)) (hb : Hid (lb = ds.length)) (hr : Hid (LOk ns)) (hl : Hid (ds.length = ns.length)) (hd : Hid (∀ k, k < ns.length → ds.getD k 0 < ns.getD k 0))
    (hc : Hid (choiceB (castL ns) (castL ds) = true)) (w : World) (hA : SRow w A (castL ns)) (hB : SRow w (some B) (castL ds)) :
    Calls Try.prog 21 #[.slice A la ca, .slice (some B) lb cb] w (RetNext ns ds w) := by
  have hla : la ≤ 12 := by rw [ha.out]; exact hr.out.hl
  have hlb : lb = la := by rw [ha.out, hb.out, hl.out]
  subst hlb
  go_enter Try.func21, Try.ntmps21
  go_wp2_with fail
  refine (choice_any A (some B) lb lb ca cb (castL ns) (castL ds) (Lib.hid (by rw [castL_length]; exact ha.out)) (Lib.hid (by rw [castL_length]; exact hb.out)) _ hA hB).mono ?_
  rintro e w1 ⟨rfl, rfl⟩
  rw [hc.out]
  go_wp2_with fail
  refine (clone_any B lb cb (castL ds) (by rw [castL_length]; exact hb.out) (by omega) _ hB).mono ?_
  rintro e w2 ⟨g, cap, rfl, hg1, hg2, hN, hbel⟩
  have hN2 : NRow w2 g lb (fun j => ((if j < lb then ds.getD j 0 else 0 : Nat) : Int)) := hN.congr fun j hj => by rw [castL_getD, if_pos hj]
  have HN := Lib.hid hN2
  have HB := Lib.hid hbel
  have HA := Lib.hid hA
  clear hN hN2 hbel hA hB
  go_wp2_with fail
  go_loopg [7] lb (fun q s wr => ∃ m : Nat, m ≤ lb ∧ q = m ∧ s = .int .i64 ((m : Int) - 1) ∧ (∀ j, m ≤ j → j < lb → ds.getD j 0 + 1 = ns.getD j 0) ∧ NRow wr g lb (fun j => ((if j < m then ds.getD j 0 else 0 : Nat) : Int)) ∧ Below w1.heap.size w1 wr)
  case atStart => exact ⟨lb, by omega, rfl, rfl, fun j h1 h2 => by omega, HN.out, HB.out⟩
  case round =>
    obtain ⟨m, hm, rfl, rfl, hall, hrow, hbw⟩ := hrel
    cases gk with
    | zero =>
      have HALL := Lib.hid hall
      have HBW := Lib.hid hbw
      clear hall hrow hbw
      go_wp2_with fail
      go_ret2
      exact ⟨HBW.out, .inl ⟨fun j hj => HALL.out j (Nat.zero_le _) (by rw [ha.out]; exact hj), rfl⟩⟩
    | succ p =>
      have hp : p < lb := by omega
      have hpn : p < ns.length := by rw [← ha.out]; exact hp
      have f1 := hrow.cell hp
      have f2 := hrow.frozen p
      rw [if_pos (Nat.lt_succ_self p)] at f1
      obtain ⟨b, o, rfl, d0⟩ := HA.out p (by rw [castL_length]; exact hpn)
      have hblt := World.block_lt_of_cell? _ _ d0
      simp only at hblt
      have d1 := (hbw.cell (p := ⟨b, o + p, none⟩) hblt).trans d0
      rw [castL_getD] at d1
      have hbg : g ≠ b := by omega
      have hdp := hd.out p hpn
      have hnp := hr.out.hk _ (getD_mem ns 0 hpn)
      have hgd : ((p + 1 : Nat) : Int) - 1 = (p : Int) := by omega
      rw [hgd]
      have HALL := Lib.hid hall
      have HBW := Lib.hid hbw
      have HR := Lib.hid hrow
      obtain ⟨u, hu⟩ : ∃ u, ns.getD p 0 = u := ⟨_, rfl⟩
      obtain ⟨v, hv⟩ : ∃ v, ds.getD p 0 = v := ⟨_, rfl⟩
      rw [hu] at d1 hdp hnp
      rw [hv] at f1 hdp
      have HU := Lib.hid hu
      have HV := Lib.hid hv
      clear hall hbw hrow hu hv hgd d0
      have hv1 : IntKind.i64.wrap ((v : Int) + 1) = ((v + 1 : Nat) : Int) := by rw [show (v : Int) + 1 = ((v + 1 : Nat) : Int) by simp]; exact wrap64_of _ (by omega)
      go_wp2_with fail
      obtain ⟨W1, hW1⟩ : ∃ W1, wr.setCell ⟨g, p, none⟩ (.int .i64 ((v + 1 : Nat) : Int)) = W1 := ⟨_, rfl⟩
      have e1 : wr.setCell ⟨g, p, none⟩ (.int .i64 ((v : Int) + 1)) = W1 := by rw [← hW1]; simp
      rw [e1]
      have HR1 : Hid (NRow W1 g lb (fun j => if j = p then ((v + 1 : Nat) : Int) else ((if j < p + 1 then ds.getD j 0 else 0 : Nat) : Int))) := Lib.hid (by rw [← hW1]; exact HR.out.set p _)
      have HB1 : Hid (Below w1.heap.size w1 W1) := Lib.hid (by rw [← hW1]; exact HBW.out.setCell (by exact hg1) _)
      have k1 : W1.cell? ⟨g, p, none⟩ = some (.int .i64 ((v + 1 : Nat) : Int)) := by have := HR1.out.cell hp; rwa [if_pos rfl] at this
      have k2 : W1.frozen? ⟨g, p, none⟩ = false := HR1.out.frozen p
      have k3 : W1.cell? ⟨b, o + p, none⟩ = some (.int .i64 (u : Int)) := by
        rw [← hW1, World.cell?_setCell_other _ _ _ _ (by intro e; exact hbg (congrArg Addr.block e))]
        exact d1
      clear hW1 e1 f1 f2 d1 HR HBW hv1
      by_cases hlt : v + 1 < u
      · have ht : (v : Int) + 1 < (u : Int) := by omega
        go_quiet (fail)
        go_wp2
        go_ret2
        refine ⟨below_drewN HB1.out _, .inr ⟨p, ⟨hpn, by rw [HU.out, HV.out]; exact hlt, fun j h1 h2 => HALL.out j h1 (by rw [ha.out]; exact h2)⟩, g, cap, by rw [← ha.out]; rfl, ?_⟩⟩
        rw [← ha.out]
        refine NRow.congr (w := World.drewN W1 _) HR1.out fun j hj => ?_
        simp only [nextF]
        by_cases h1 : j = p
        · subst h1
          rw [if_pos rfl, if_neg (by omega), if_pos rfl, HV.out]
        · rw [if_neg h1, if_neg h1]
          by_cases h2 : j < p
          · rw [if_pos (by omega), if_pos h2]
          · rw [if_neg (by omega), if_neg h2]
      · have hvu : v + 1 = u := by omega
        have ht : ¬ (v : Int) + 1 < (u : Int) := by omega
        go_quiet (fail)
        go_wp2
        go_roundg p
        case measure => omega
        case rel =>
          refine ⟨p, by omega, rfl, by go_num, fun j h1 h2 => ?_, NRow.congr (NRow.set (w := World.drewN W1 _) HR1.out p 0) fun j hj => ?_, (below_drewN HB1.out _).setCell (by exact hg1) _⟩
          · by_cases h3 : j = p
            · subst h3; rw [HU.out, HV.out]; exact hvu
            · exact HALL.out j (by omega) h2
          · by_cases h1 : j = p
            · subst h1; rw [if_pos rfl, if_neg (by omega)]; rfl
            · rw [if_neg h1, if_neg h1]
              by_cases h2 : j < p
              · rw [if_pos (by omega), if_pos h2]
              · rw [if_neg (by omega), if_neg h2]
end Go.Proofs.Ytjnakkdonkgcjaa
