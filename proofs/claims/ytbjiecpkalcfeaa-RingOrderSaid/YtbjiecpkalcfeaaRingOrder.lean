/- RingOrder's walk. -/
import Derived.Test.YtbjiecpkalcfeaaRingAll
import Derived.Test.YtbjiecpkalcfeaaOpenBools
import Derived.Test.YtbjiecpkalcfeaaSl
import Derived.BigQuiet
namespace Go.Proofs.Ytbjiecpkalcfeaa.RingOrder
open Go Go.RowKit Go.Proofs.Ytbjiecpkalcfeaa Go.Proofs.Ytbjiecpkalcfeaa.Heap Go.Proofs.Ytbjiecpkalcfeaa.HeadIs Go.Proofs.Ytbjiecpkalcfeaa.Mem Go.Proofs.Ytbjiecpkalcfeaa.Two Go.Proofs.Ytbjiecpkalcfeaa.RingWords Go.Proofs.Ytbjiecpkalcfeaa.Ring Go.Proofs.Ytbjiecpkalcfeaa.RingPlain Go.Proofs.Ytbjiecpkalcfeaa.RingAll Go.Proofs.Ytbjiecpkalcfeaa.OpenRecs Go.Proofs.Ytbjiecpkalcfeaa.OpenBools Go.Proofs.Ytbjiecpkalcfeaa.Sl

/-- The memory's one frame is a ring that holds the events es. -/
def RS (w : World) (p g : Nat) (es : List Ev) : Prop := ∃ L b, MemAt w p g 1 L ∧ RG L b es
section
variable {w w' : World} {p g : Nat} {es : List Ev}
theorem RS.chg0 (h : RS w p g es) (k : Chg [] w w') : RS w' p g es := by
  obtain ⟨L, b, m, r⟩ := h
  exact ⟨L, b, m.chg0 k, r⟩
theorem RS.chg {S : List Nat} (h : RS w p g es) (k : Chg S w w') (hp : p ∉ S) (hg : g ∉ S) : RS w' p g es := by
  obtain ⟨L, b, m, r⟩ := h
  exact ⟨L, b, m.chg k hp hg, r⟩
theorem RS.hd (h : RS w p g es) : ∃ cs, Blk w p 94 cs := by
  obtain ⟨L, b, m, r⟩ := h
  exact ⟨_, m.hd⟩
theorem RS.le (h : RS w p g es) : es.length ≤ 8 := by
  obtain ⟨L, b, m, r⟩ := h
  have := r.good.c1
  omega
theorem RS.row (h : RS w p g es) : ∃ cs, Blk w g 158 cs := by
  obtain ⟨L, b, m, r⟩ := h
  exact ⟨_, m.row⟩
theorem take0 (h : RS w p g []) : Calls Try.prog 11 #[.pointer (some ⟨p, 0, none⟩), .int .i64 0] w fun e w' => e = .returned (.tuple #[evV 0 0, .int .i64 3]) ∧ Chg [] w w' := by
  obtain ⟨L, b, m, r⟩ := h
  exact take_none m r.u r.good
theorem take1 {x : Ev} (h : RS w p g (x :: es)) : Calls Try.prog 11 #[.pointer (some ⟨p, 0, none⟩), .int .i64 0] w fun e w' => e = .returned (.tuple #[evV x.1 x.2, .int .i64 0]) ∧ RS w' p g es ∧ Chg [g] w w' := by
  obtain ⟨L, b, m, r⟩ := h
  obtain ⟨-, e1, e2, e3, -⟩ := r.ev 0 (by simp)
  have := take_good m r.u r.good (by simp) e1
  refine Calls.mono this ?_
  rintro e w' ⟨rfl, m', k⟩
  refine ⟨?_, ⟨_, _, m', r.take⟩, k⟩
  have e2' : ofK (evW 1 L 0 b 0) = x.1 := e2
  have e3' : ofT (evW 1 L 0 b 0) = x.2 := e3
  rw [e2', e3']
theorem put0 (k t : Int) (hR : rightE k t = false) : Calls Try.prog 12 #[.pointer (some ⟨p, 0, none⟩), .int .i64 0, evV k t] w fun e w' => e = .returned (.int .i64 1) ∧ Chg [] w w' := put_bad 0 k t hR
theorem put1 (h : RS w p g es) (h8 : es.length = 8) (k t : Int) (hR : rightE k t = true) : Calls Try.prog 12 #[.pointer (some ⟨p, 0, none⟩), .int .i64 0, evV k t] w fun e w' => e = .returned (.int .i64 2) ∧ Chg [] w w' := by
  obtain ⟨L, b, m, r⟩ := h
  have hg := r.good
  rw [h8] at hg
  exact put_full m r.u hg k t hR
theorem put2 (h : RS w p g es) (h8 : es.length < 8) (k t : Int) (hR : rightE k t = true) : Calls Try.prog 12 #[.pointer (some ⟨p, 0, none⟩), .int .i64 0, evV k t] w fun e w' => e = .returned (.int .i64 0) ∧ RS w' p g (es ++ [(k, t)]) ∧ Chg [g] w w' := by
  obtain ⟨L, b, m, r⟩ := h
  refine Calls.mono (put_good m r.u r.good k t hR (by omega)) ?_
  rintro e w' ⟨rfl, m', kk⟩
  exact ⟨rfl, ⟨_, _, m', r.put h8 hR⟩, kk⟩
theorem all2 (h : RS w p g es) : Calls Try.prog 14 #[.pointer (some ⟨p, 0, none⟩), .int .i64 0] w fun e w' => ∃ v, e = .returned (.tuple #[v, .int .i64 0]) ∧ w'.ownsRow 0 32 2 v es.length (evs es) ∧ (∀ q, v.ownBlock = some q → w.heap.size ≤ q) ∧ Chg [] w w' := by
  obtain ⟨L, b, m, r⟩ := h
  exact all_ok m r
end
theorem rec_at {w : World} {ad : Addr} {n : Nat} (h : RecsAt w (some ad) n [some .i64, some .i64]) {i : Nat} (hi : i < n) : ∃ k t, w.cell? (ad.add (i * 2)) = some (.int .i64 k) ∧ w.cell? ⟨(ad.add (i * 2)).block, (ad.add (i * 2)).off + 1, none⟩ = some (.int .i64 t) := by
  obtain ⟨a, e, hf⟩ := h.2 (by omega)
  obtain rfl : ad = a := Option.some.inj e
  obtain ⟨v0, ⟨k, rfl, _⟩, c0⟩ := hf i hi 0 _ rfl
  obtain ⟨v1, ⟨l, rfl, _⟩, c1⟩ := hf i hi 1 _ rfl
  have e : ∀ j, (⟨(ad.add (i * 2)).block, (ad.add (i * 2)).off + (j + 1), none⟩ : Addr) = ad.add (i * 2 + (j + 1)) := fun j => by
    rw [← add_of_add]
    generalize ad.add (i * 2) = q
    rfl
  exact ⟨k, l, c0, (by rw [e 0]; exact c1)⟩
theorem stays {w V : World} {q : Addr} {v : Value} (hc : w.cell? q = some v) (hV : Chg [] w V) : V.cell? q = some v := by
  rw [← hc]
  exact World.cell?_of_block (hV.block _ (World.block_lt_of_cell? w _ hc) (by simp))
/-- The state of the law's loop: the ring holds what the list holds. -/
structure ST (w wr : World) (p g : Nat) (v : Value) (es : List Ev) : Prop where
  rs : RS wr p g es
  sl : Sl wr 32 2 v es.length (evs es)
  own : ∀ q, v.ownBlock = some q → w.heap.size ≤ q
  k : Chg [] w wr
  fg : w.heap.size ≤ g
theorem ST.chg0 {w wr w' : World} {p g : Nat} {v : Value} {es : List Ev} (h : ST w wr p g v es) (k : Chg [] wr w') : ST w w' p g v es := ⟨h.rs.chg0 k, h.sl.chg k (by simp), h.own, h.k.trans k (by simp), h.fg⟩
theorem ST.ne_ {w wr : World} {p g : Nat} {v : Value} {es : List Ev} (h : ST w wr p g v es) : v.ownBlock ≠ some g := by
  obtain ⟨cs, hb⟩ := h.rs.row
  exact h.sl.ne_ hb (by decide)
theorem ST.nep {w wr : World} {p g : Nat} {v : Value} {es : List Ev} (h : ST w wr p g v es) : v.ownBlock ≠ some p := by
  obtain ⟨cs, hb⟩ := h.rs.hd
  exact h.sl.ne_ hb (by decide)

set_option maxRecDepth 100000 in
set_option maxHeartbeats 8000000 in
theorem ringOrder_walk (T : Option Addr) (nt ct : Nat) (E : Option Addr) (ne ce : Nat) (w : World) (hT : BoolsAt w T nt) (hE : RecsAt w E ne [some .i64, some .i64]) :
    Calls Try.prog 3 #[.slice T nt ct, .slice E ne ce] w fun e w' => e = .returned (.bool true) ∧ Chg [] w w' := by
  have b1 := hT.1
  have b2 := hE.1
  have ZT := Lib.hid hT
  have ZE := Lib.hid hE
  clear hT hE
  go_enter Try.func3, Try.ntmps3
  go_wp2_with fail
  refine Calls.mono (Mem.new_ok 1 (by decide) (by decide) _) ?_
  rintro e w1 ⟨p, g, rfl, m, hp, hg, k1⟩
  go_wp2_with fail
  refine Calls.mono (HeadIs.make_ok m 0 6 0 false 0) ?_
  rintro e w2 ⟨rfl, m2, k2⟩
  have h0 : HeadPut.hputE 1 0 6 0 false 0 = 0 := by decide
  rw [h0]
  have S2 : ST w w2 p g (.slice none 0 0) [] := ⟨⟨_, _, m2, RG.zero⟩, Sl.nil _ _ _, fun q hq => by simp [Value.ownBlock] at hq, k1.trans k2 (by simp; omega), hg⟩
  clear m m2 k1 k2 hp hg h0
  go_wp2_with fail
  go_loopw [7, 8] (fun s i wr => ∃ (j : Nat) (v : Value) (es : List Ev), i = .int .i64 j ∧ v = s ∧ j ≤ nt ∧ j ≤ ne ∧ j ≤ 100 ∧ ST w wr p g v es) (fun _ i _ => nt - (intOf i).toNat)
  case atStart => exact ⟨0, _, [], rfl, rfl, by omega, by omega, by omega, S2⟩
  case round =>
    clear S2
    obtain ⟨j, v, es, rfl, rfl, j1, j2, j3, S⟩ := hrel
    by_cases hlt : j < nt ∧ j < ne ∧ j < 100
    · obtain ⟨l1, l2, l3⟩ := hlt
      obtain ⟨aT, rfl, -⟩ := ZT.out.2 (by omega)
      obtain ⟨aE, rfl, -⟩ := ZE.out.2 (by omega)
      obtain ⟨tk, cT⟩ := ZT.out.cell l1
      obtain ⟨k, t, q0, q1⟩ := rec_at ZE.out l2
      have SK : Hid (∀ V, Chg [] w V → V.cell? (aE.add (j * 2)) = some (.int .i64 k) ∧ V.cell? ⟨(aE.add (j * 2)).block, (aE.add (j * 2)).off + 1, none⟩ = some (.int .i64 t)) := fun V kV => ⟨stays q0 kV, stays q1 kV⟩
      have cc := stays cT S.k
      have h8 := S.rs.le
      clear q0 q1 cT
      cases tk with
      | true =>
        cases es with
        | nil =>
          obtain ⟨o, c, rfl⟩ : ∃ o c, v = .slice o 0 c := by
            rcases S.sl.2 with ⟨rfl, -⟩ | ⟨_, _, _, _, rfl, -⟩
            · exact ⟨_, _, rfl⟩
            · exact ⟨_, _, rfl⟩
          go_wp2_with fail
          refine Calls.mono (take0 S.rs) ?_
          rintro e w3 ⟨rfl, kk⟩
          obtain ⟨x, ex⟩ : ∃ x, w3.heap.size = x := ⟨_, rfl⟩
          have X := Blk.new' w3 32 (evC 0 0) ex
          replace S := (S.chg0 kk).chg0 ((Chg.refl [] w3).alloc (.cells (evC 0 0) 32))
          clear kk cc
          obtain ⟨c0, c1⟩ := blk2 X
          go_wp2_with fail
          go_quiet (fail)
          replace S := S.chg0 ((Chg.refl [] _).drewN nq)
          go_wp2
          go_roundw
          case rel => exact ⟨j + 1, _, [], by go_num, rfl, by omega, by omega, by omega, S⟩
          case measure => simp [intOf]; omega
        | cons y es =>
          have hl : (y :: es).length = es.length + 1 := rfl
          obtain ⟨q, off, cap, rfl, hnc, hql, hcells⟩ := S.sl.form (by simp)
          have hne := S.ne_
          obtain ⟨y0, y1⟩ := y
          have d0 : World.cell? _ ⟨q, off, none⟩ = some (.int .i64 y0) := hcells 0 _ rfl
          have d1 : World.cell? _ ⟨q, off + 1, none⟩ = some (.int .i64 y1) := hcells 1 _ rfl
          have hqg : q ≠ g := fun e => hne (by rw [e]; rfl)
          rw [hl] at hnc ⊢
          have hn8 : es.length + 1 ≤ 8 := h8
          go_wp2_with fail
          refine Calls.mono (take1 S.rs) ?_
          rintro e w3 ⟨rfl, r3, kk⟩
          have sl3 := S.sl.chg kk (fun g' hg' => by have : q = g' := by simpa [Value.ownBlock] using hg'
                                                    subst this; simpa using hqg)
          have d2 : w3.cell? ⟨q, off, none⟩ = some (.int .i64 y0) := by rw [← d0]; exact World.cell?_of_block (kk.block _ hql (by simpa using hqg))
          have d3 : w3.cell? ⟨q, off + 1, none⟩ = some (.int .i64 y1) := by rw [← d1]; exact World.cell?_of_block (kk.block _ hql (by simpa using hqg))
          have K3 := S.k.trans kk (by have := S.fg; simp; omega)
          have O3 := S.own
          have F3 := S.fg
          obtain ⟨x, ex⟩ : ∃ x, w3.heap.size = x := ⟨_, rfl⟩
          have X := Blk.new' w3 32 (evC y0 y1) ex
          have kA := (Chg.refl [] w3).alloc (.cells (evC y0 y1) 32)
          have d4 := stays d2 kA
          have d5 := stays d3 kA
          replace r3 := r3.chg0 kA
          replace sl3 := sl3.chg kA (by simp)
          replace K3 := K3.trans kA (by simp)
          clear kk cc d0 d1 d2 d3 S hne kA hcells
          obtain ⟨c0, c1⟩ := blk2 X
          go_wp2_with fail
          go_quiet (fail)
          have kD := (Chg.refl [] (w3.alloc (.cells (evC y0 y1) 32))).drewN nq
          replace r3 := r3.chg0 kD
          replace sl3 := sl3.chg kD (by simp)
          replace K3 := K3.trans kD (by simp)
          go_wp2
          go_roundw
          case rel => exact ⟨j + 1, .slice (some ⟨q, if cap = 1 then off else off + 2, none⟩) es.length (cap - 1), es, by go_num, by split <;> rfl, by omega, by omega, by omega, ⟨r3, sl3.tail, fun g' hg' => O3 g' (by simpa [Value.ownBlock] using hg'), K3, F3⟩⟩
          case measure => simp [intOf]; omega
      | false =>
        obtain ⟨o, c, hv⟩ : ∃ o c, v = .slice o es.length c := by
          rcases S.sl.2 with ⟨rfl, h⟩ | ⟨_, _, _, _, rfl, -⟩
          · exact ⟨_, _, by rw [h]⟩
          · exact ⟨_, _, rfl⟩
        have e0 := (SK.out _ S.k).1
        have e1 := (SK.out _ S.k).2
        have HC := check_ok k t
        cases hR : rightE k t with
        | false =>
          rw [hR] at HC
          have HC' := Lib.hid HC
          clear HC
          obtain ⟨n8, hn8⟩ : ∃ n8, es.length = n8 := ⟨_, rfl⟩
          rw [hn8] at hv
          subst hv
          go_wp2_with fail
          refine Calls.mono (put0 k t hR) ?_
          rintro e w3 ⟨rfl, kk⟩
          replace S := S.chg0 kk
          clear kk cc e0 e1
          have e0 := (SK.out _ S.k).1
          have e1 := (SK.out _ S.k).2
          go_wp2_with fail
          refine Calls.mono (HC'.out _) ?_
          rintro e w4 ⟨rfl, kk⟩
          replace S := S.chg0 kk
          rw [show errE false = 1 from rfl]
          go_wp2
          go_roundw
          case rel => exact ⟨j + 1, _, es, by go_num, rfl, by omega, by omega, by omega, S⟩
          case measure => simp [intOf]; omega
        | true =>
          rw [hR] at HC
          have HC' := Lib.hid HC
          clear HC
          by_cases hf : es.length = 8
          · rw [hf] at hv
            subst hv
            go_wp2_with fail
            refine Calls.mono (put1 S.rs hf k t hR) ?_
            rintro e w3 ⟨rfl, kk⟩
            replace S := S.chg0 kk
            clear kk cc e0 e1
            have e0 := (SK.out _ S.k).1
            have e1 := (SK.out _ S.k).2
            go_wp2_with fail
            refine Calls.mono (HC'.out _) ?_
            rintro e w4 ⟨rfl, kk⟩
            replace S := S.chg0 kk
            rw [show errE true = 0 from rfl]
            go_wp2
            go_roundw
            case rel => exact ⟨j + 1, _, es, by go_num, rfl, by omega, by omega, by omega, S⟩
            case measure => simp [intOf]; omega
          · have h7 : es.length < 8 := by omega
            obtain ⟨n8, hn8⟩ : ∃ n8, es.length = n8 := ⟨_, rfl⟩
            have hn7 : (n8 : Int) < 8 := by omega
            rw [hn8] at hv
            subst hv
            have hne := S.ne_
            have hnp := S.nep
            go_wp2_with fail
            refine Calls.mono (put2 S.rs h7 k t hR) ?_
            rintro e w3 ⟨rfl, r3, kk⟩
            have sl3 := S.sl.chg kk (fun g' hg' => by
              have : g' ≠ g := fun e => hne (by rw [hg', e])
              simpa using this)
            have K3 := S.k.trans kk (by have := S.fg; simp; omega)
            have O3 := S.own
            have F3 := S.fg
            clear kk cc e0 e1 S
            have e0 := (SK.out _ K3).1
            have e1 := (SK.out _ K3).2
            go_wp2_with fail
            refine Calls.mono (HC'.out _) ?_
            rintro e w4 ⟨rfl, kk⟩
            replace sl3 := sl3.chg kk (by simp)
            replace r3 := r3.chg0 kk
            replace K3 := K3.trans kk (by simp)
            rw [show errE true = 0 from rfl]
            clear kk e0 e1
            have e0 := (SK.out _ K3).1
            have e1 := (SK.out _ K3).2
            rw [hn8] at sl3
            have HS := Lib.hid sl3
            clear sl3
            go_wp2_with (at_builtin; refine wpList_app_sl rfl (.tmp 104) (.tmp 109) 23 rfl 32 (evV 0 0) 2 16 Try.underlying23 info_ev rfl (by decide) (by decide) (.slice o n8 c) n8 (evs es) rfl (HS.out.chg ((Chg.refl [] w4).alloc _) (by simp)) ⟨w4.heap.size, 0, none⟩ 1 [.int .i64 k, .int .i64 t] rfl rfl (two_new w4 _ _ _ rfl) (by simp [Value.oneCell']) (by omega) ?_; intro v' w5 sl5 k5 own5)
            go_roundw
            case rel =>
              refine ⟨j + 1, v', es ++ [(k, t)], by go_num, rfl, by omega, by omega, by omega, ?_⟩
              have hl : (es ++ [(k, t)]).length = n8 + 1 := by rw [List.length_append, hn8]; rfl
              refine ⟨(r3.chg0 ((Chg.refl [] w4).alloc _)).chg k5 (fun h => hnp (by simpa using h)) (fun h => hne (by simpa using h)), ?_, ?_, (K3.alloc _).trans k5 (fun s hs => .inr (O3 s (by simpa using hs))), F3⟩
              · rw [hl, evs_app]
                exact sl5
              · intro g' hg'
                have hsz := (K3.alloc (.cells #[.int .i64 k, .int .i64 t] 32)).size
                rcases own5 g' hg' with h | h
                · exact O3 g' h
                · omega
            case measure => simp [intOf]; omega
    · have h8 := S.rs.le
      obtain ⟨o, c, hv⟩ : ∃ o c, v = .slice o es.length c := by
        rcases S.sl.2 with ⟨rfl, h⟩ | ⟨_, _, _, _, rfl, -⟩
        · exact ⟨_, _, by rw [h]⟩
        · exact ⟨_, _, rfl⟩
      have HA := all2 S.rs
      have hlen := S.sl.1
      have hB := S.sl.form
      obtain ⟨n8, hn8⟩ : ∃ n8, es.length = n8 := ⟨_, rfl⟩
      rw [hn8] at hv HA h8 hB
      have HA' := Lib.hid HA
      have HB := Lib.hid hB
      subst hv
      clear HA hB
      rcases (by omega : ¬ j < nt ∨ (j < nt ∧ ¬ j < ne) ∨ (j < nt ∧ j < ne ∧ ¬ j < 100)) with h | ⟨h, h'⟩ | ⟨h, h', h''⟩
      all_goals
        clear hlt
        go_wp2_with fail
        refine Calls.mono HA'.out ?_
        rintro e w3 ⟨v2, rfl, o3, f3, kk⟩
        have K3 := S.k.trans kk (by simp)
        have slv := S.sl.chg kk (by simp)
        have sl2 := Sl.of_own o3
        rw [hn8] at slv
        obtain ⟨o2, c2, hv2⟩ : ∃ o2 c2, v2 = .slice o2 n8 c2 := by
          rcases sl2.2 with ⟨rfl, h⟩ | ⟨_, _, _, _, rfl, -⟩
          · exact ⟨_, _, by rw [h]⟩
          · exact ⟨_, _, rfl⟩
        have HV := Lib.hid slv
        have H2 := Lib.hid sl2
        subst hv2
        clear S o3 f3 kk slv sl2
        go_wp2_with fail
        go_loopw [14] (fun i wr => ∃ m : Nat, i = .int .i64 m ∧ m ≤ n8 ∧ Chg [] w3 wr) (fun i _ => n8 - (intOf i).toNat)
        case atStart => exact ⟨0, rfl, Nat.zero_le _, Chg.refl _ _⟩
        case round =>
          obtain ⟨m, rfl, hm, km⟩ := hrel
          by_cases hmn : m < n8
          · obtain ⟨q, off, cap, e1, hnc, -, hq⟩ := (HV.out.chg km (by simp)).form (by omega)
            obtain ⟨q2, off2, cap2, e2, hnc2, -, hq2⟩ := (H2.out.chg km (by simp)).form (by omega)
            simp only [Value.slice.injEq, true_and] at e1 e2
            obtain ⟨rfl, rfl⟩ := e1
            obtain ⟨rfl, rfl⟩ := e2
            have a0 := hq _ _ (evs_get es m (by omega)).1
            have a1 := hq _ _ (evs_get es m (by omega)).2
            have b0 := hq2 _ _ (evs_get es m (by omega)).1
            have b1' := hq2 _ _ (evs_get es m (by omega)).2
            rw [← Nat.add_assoc] at a1 b1'
            generalize (es.getD m (0, 0)).1 = y0 at *
            generalize (es.getD m (0, 0)).2 = y1 at *
            clear hq hq2
            go_wp2_with fail
            go_quiet (fail)
            replace km := km.drewN nq
            go_wp2
            go_roundw
            case rel => exact ⟨m + 1, by go_num, by omega, km⟩
            case measure => simp [intOf]; omega
          · obtain rfl : m = n8 := by omega
            replace K3 := K3.trans km (by simp)
            go_wp2_with fail
            refine Calls.mono (awake_ok _) ?_
            rintro e w4 ⟨rfl, kk⟩
            replace K3 := K3.trans kk (by simp)
            go_wp2
            go_ret
            exact ⟨rfl, K3⟩
end Go.Proofs.Ytbjiecpkalcfeaa.RingOrder
