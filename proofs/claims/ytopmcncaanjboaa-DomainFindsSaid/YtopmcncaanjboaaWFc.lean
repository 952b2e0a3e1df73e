/- Each function does what its plain words tell. -/
import Derived.Test.YtopmcncaanjboaaWFb
namespace Go.Proofs.Ytopmcncaanjboaa
open Go Go.Sy Go.RowKit
set_option linter.unusedVariables false
open Go.Mir
theorem m_domain_narrow_sp {F : PH} {g : Nat} {a0 : List (List Int)} {a1 : List DLimit} {pA0 : Option Addr} {pc0 : Nat} {pA1 : Option Addr} {pc1 : Nat} (ph0 : Fsl 24 (Kind.sl 8 (Kind.int .i64)) F pA0 pc0 a0) (ph1 : Fsl 88 KDLimit F pA1 pc1 a1) {r : List (List Int) × Bool} (hm : m_domain_narrow g a0 a1 = some r) :
  CallSp Try.prog 28 #[.slice pA0 a0.length pc0, .slice pA1 a1.length pc1] F [] (fun u F' H' => ∃ (B0 : Option Addr) (d0 : Nat), u = (.tuple #[.slice B0 r.1.length d0, .bool r.2]) ∧ Fsl 24 (Kind.sl 8 (Kind.int .i64)) F' B0 d0 r.1 ∧ H' = []) := by
 unfold m_domain_narrow at hm
 refine CallSp.enter (args := [.slice pA0 a0.length pc0, .slice pA1 a1.length pc1]) Try.func28 rfl rfl ?_
 intro w0 m0 hm0
 refine St.seq ?_
 refine St.region ?_
 refine St.val (v := (.slice none 0 0)) (Yields.assign rfl) trivial rfl rfl ?_
 refine St.val (v := (.bool false)) (Yields.assign rfl) trivial rfl rfl ?_
 refine St.nil ?_
 refine St.norm ?_
 refine St.seq ?_
 refine St.region ?_
 refine St.val (v := (.slice pA0 a0.length pc0)) (Yields.move rfl) trivial rfl rfl ?_
 refine St.val (v := (.int .i64 ((a0.length : Nat) : Int))) (Yields.lenSlice tu22 rfl) trivial rfl rfl ?_
 obtain ⟨x3, e4, hm⟩ := bS hm
 refine St.makeK (D := (Kind.sl 8 (Kind.int .i64))) e4 ts22 tz26 rfl rfl ⟨_, _, rfl, Fsl.nil⟩ rfl rfl rfl trivial ?_
 intro g5 c6 cells7 h8 b9
 refine St.val (v := (.slice (some ⟨g5, 0, none⟩) x3.length c6)) (Yields.assign rfl) trivial rfl rfl ?_
 refine St.nil ?_
 refine St.norm ?_
 obtain ⟨o20, hm, ho21⟩ := jS hm
 refine St.cutI (fun a w => ∃ z11 : List (List Int), o20 = .inl z11 ∧ ∃ (A15 : Option Addr) (c16 : Nat) (cells18 : List Value) (F12 : PH), PH.le F F12 ∧ Cat (Kind.sl 8 (Kind.int .i64)) F12 cells18 z11 ∧ Bnd 24 z11 ∧ Has Try.f28.ntmps a [(1, .slice pA1 a1.length pc1), (6, .slice A15 z11.length c16)] ∧ Sat ⟨w0, fun b => m0 b ≠ none, F⟩ F12 [rowo A15 z11.length c16 26 1 cells18] w) ?_ ?_
 ·skip
  refine St.seq ?_
  refine St.region ?_
  refine St.val (v := (.slice pA0 a0.length pc0)) (Yields.move rfl) trivial rfl rfl ?_
  refine St.val (v := (.int .i64 ((a0.length : Nat) : Int))) (Yields.lenSlice tu22 rfl) trivial rfl rfl ?_
  refine St.val (v := (.int .i64 0)) (Yields.move rfl) trivial rfl rfl ?_
  refine St.nil ?_
  refine St.norm ?_
  refine St.block ?_
  refine St.loopM hm (fun s31 a w => ∃ (A36 : Option Addr) (c37 : Nat) (cells39 : List Value) (F41 : PH), PH.le F F41 ∧ Cat (Kind.sl 8 (Kind.int .i64)) F41 cells39 s31.1 ∧ Bnd 24 s31.1 ∧ Has Try.f28.ntmps a [(1, .slice pA1 a1.length pc1), (6, .slice A36 s31.1.length c37), (21, .slice pA0 a0.length pc0), (22, .int .i64 ((a0.length : Nat) : Int)), (23, .int .i64 ((s31.2 : Nat) : Int))] ∧ Sat ⟨w0, fun b => m0 b ≠ none, F⟩ F41 [rowo A36 s31.1.length c37 26 1 cells39] w) ?_ ?_
  ·skip
   intro a w ha hs
   exact ⟨(some ⟨g5, 0, none⟩), c6, cells7, F, (PH.le_refl _), h8, b9, ha.covers ⟨rfl, rfl, rfl, rfl, rfl, trivial⟩, (Among.of (Among.take 0 rfl rfl Among.none) _ hs)⟩
  ·rintro s31 o32 co33 hm ho34 a w ⟨A36, c37, cells39, F41, l42, h38, b40, ha, hs⟩
   refine St.use (?_ : St _ _ _ _ _ _) ha hs
   clear ha hs a w
   refine St.seq ?_
   refine St.region ?_
   refine St.val (v := (.bool (decide (((s31.2 : Nat) : Int) < ((a0.length : Nat) : Int))))) (Yields.lt rfl rfl) trivial rfl rfl ?_
   refine St.nil ?_
   refine St.norm ?_
   refine St.seq ?_
   refine St.cond_b rfl ?_ ?_
   ·intro q43
    replace q43 : ((s31.2 : Nat) : Int) < ((a0.length : Nat) : Int) := of_decide_eq_true q43
    replace hm := iT hm q43
    refine St.skip ?_
    refine St.norm ?_
    refine St.seq ?_
    refine St.block ?_
    refine St.seq ?_
    refine St.region ?_
    refine St.val (v := (.int .i64 ((s31.2 : Nat) : Int))) (Yields.move rfl) trivial rfl rfl ?_
    obtain ⟨x44, e45, hm⟩ := bS hm
    obtain ⟨p46, cs47, jx48, R49, k50⟩ := (Fsl.mono l42 ph0).nidx e45
    obtain ⟨A51, c52, rfl, h53⟩ := R49
    refine St.val (v := (.pointer (some p46))) (Yields.idx jx48 ts22 rfl rfl) trivial rfl rfl ?_
    refine St.val (v := (.slice A51 x44.length c52)) (Yields.load rfl (Loads.Fat k50 tc26 rfl)) trivial rfl rfl ?_
    refine St.val (v := (.int .i64 ((s31.2 : Nat) : Int))) (Yields.assign rfl) trivial rfl rfl ?_
    refine St.val (v := (.slice A51 x44.length c52)) (Yields.assign rfl) trivial rfl rfl ?_
    refine St.nil ?_
    refine St.norm ?_
    refine St.seq ?_
    refine St.region ?_
    refine St.val (v := (.slice A36 s31.1.length c37)) (Yields.move rfl) trivial rfl rfl ?_
    refine St.val (v := (.int .i64 ((s31.2 : Nat) : Int))) (Yields.move rfl) trivial rfl rfl ?_
    refine St.val (v := (.slice A51 x44.length c52)) (Yields.move rfl) trivial rfl rfl ?_
    refine St.rowo_new 3 1 ?_
    obtain ⟨x60, e61, hm⟩ := bS hm
    refine St.pushS (R := [rowo A36 s31.1.length c37 26 1 cells39]) e61 ts26 rfl rfl rfl rfl 0 rfl rfl (show Cat (Kind.int .i64) _ [] [] from rfl) h53 rfl trivial ?_
    intro A56 c57 cells58 h59
    obtain ⟨x63, e64, hm⟩ := bS hm
    obtain ⟨jx65, jx66, cs67, R68, k69⟩ := h38.nidx e64
    obtain ⟨A70, c71, rfl, h72⟩ := R68
    refine St.rowo_at 1 rfl (by omega) ?_
    intro hA74
    refine St.val (v := (.pointer (some ⟨bk A36, bo A36 + (s31.2 : Int).toNat * 1, none⟩))) (Yields.idx (IdxAt.own hA74 jx65 jx66) ts22 rfl rfl) trivial rfl rfl ?_
    refine St.frz 0 rfl rfl rfl h59 (Bnd.of_push e61) ?_
    intro F75 l76 h77
    obtain ⟨x80, e81, hm⟩ := bS hm
    refine St.putK1 (R := []) e81 (Cat.mono l76 h38) (show ((Kind.sl 8 (Kind.int .i64))).R _ [.slice A56 x60.length c57] x60 from ⟨_, _, rfl, h77⟩) rfl rfl rfl 0 rfl rfl tc26 rfl trivial ?_
    intro cells79 h78
    try rw [upd_len e81]
    refine St.nil ?_
    refine St.norm ?_
    refine St.seq ?_
    refine St.region ?_
    refine St.val (v := (.slice A51 x44.length c52)) (Yields.move rfl) trivial rfl rfl ?_
    refine St.val (v := (.int .i64 ((x44.length : Nat) : Int))) (Yields.lenSlice tu26 rfl) trivial rfl rfl ?_
    refine St.val (v := (.bool (decide (((x44.length : Nat) : Int) = 0)))) (Yields.eq rfl rfl) trivial rfl rfl ?_
    refine St.nil ?_
    refine St.norm ?_
    refine St.cond_b rfl ?_ ?_
    ·intro q82
     replace q82 : ((x44.length : Nat) : Int) = 0 := of_decide_eq_true q82
     replace hm := iT hm q82
     refine St.seq ?_
     refine St.region ?_
     refine St.val (v := (.slice none 0 0)) (Yields.assign rfl) trivial rfl rfl ?_
     refine St.val (v := (.bool false)) (Yields.assign rfl) trivial rfl rfl ?_
     refine St.nil ?_
     refine St.norm ?_
     refine St.ret ?_
     refine St.inret ?_
     refine St.thenret ?_
     refine St.thenret ?_
     refine St.inret ?_
     refine St.thenret ?_
     obtain rfl := sI hm
     obtain rfl := aR ho34
     obtain rfl := aR ho21
     exact St.doneR2 rfl rfl rfl ⟨none, 0, rfl, Fsl.nil, rfl⟩ (fun w hs => Among.of Among.none w hs)
    ·intro q83
     replace q83 : ¬ (((x44.length : Nat) : Int) = 0) := of_decide_eq_false q83
     replace hm := iF hm q83
     refine St.skip ?_
     refine St.innorm ?_
     refine St.norm ?_
     refine St.region ?_
     refine St.val (v := (.int .i64 ((s31.2 + 1 : Nat) : Int))) (Yields.addn (j := 1) rfl rfl rfl (by have q_0 := q43; have q_1 := ph0.bnd.2; omega)) trivial rfl rfl ?_
     refine St.val (v := (.int .i64 ((s31.2 + 1 : Nat) : Int))) (Yields.move rfl) trivial rfl rfl ?_
     refine St.nil ?_
     refine St.norm ?_
     obtain rfl := sI hm
     intro a w ha hs
     exact ⟨(x80, s31.2 + 1), aL ho34, A36, c37, cells79, F75, (PH.le_trans l42 l76), h78, (Bnd.of_upd b40 e81), ha.covers ⟨rfl, rfl, rfl, rfl, rfl, trivial⟩, (Among.of (Among.take 0 rfl rfl Among.none) _ hs)⟩
   ·intro q84
    replace q84 : ¬ (((s31.2 : Nat) : Int) < ((a0.length : Nat) : Int)) := of_decide_eq_false q84
    replace hm := iF hm q84
    refine St.exit ?_
    refine St.thenexit ?_
    refine St.thenexit ?_
    refine St.inexit ?_
    obtain rfl := sI hm
    obtain rfl := aR ho34
    intro a w ha hs
    exact ⟨s31.1, rfl, A36, c37, cells39, F41, l42, h38, b40, ha.covers ⟨rfl, rfl, trivial⟩, (Among.of (Among.take 0 rfl rfl Among.none) _ hs)⟩
 ·rintro a w ⟨z11, rfl, A15, c16, cells18, F12, l13, h17, b19, ha, hs⟩
  replace hm := aL ho21
  refine St.use (?_ : St _ _ _ _ _ _) ha hs
  clear ha hs a w
  obtain ⟨o94, hm, ho95⟩ := jS hm
  refine St.cutI (fun a w => ∃ z85 : List (List Int), o94 = .inl z85 ∧ ∃ (A89 : Option Addr) (c90 : Nat) (cells92 : List Value) (F86 : PH), PH.le F12 F86 ∧ Cat (Kind.sl 8 (Kind.int .i64)) F86 cells92 z85 ∧ Bnd 24 z85 ∧ Has Try.f28.ntmps a [(6, .slice A89 z85.length c90)] ∧ Sat ⟨w0, fun b => m0 b ≠ none, F⟩ F86 [rowo A89 z85.length c90 26 1 cells92] w) ?_ ?_
  ·skip
   refine St.seq ?_
   refine St.region ?_
   refine St.val (v := (.bool true)) (Yields.assign rfl) trivial rfl rfl ?_
   refine St.nil ?_
   refine St.norm ?_
   refine St.block ?_
   refine St.loopM hm (fun s105 a w => ∃ (A110 : Option Addr) (c111 : Nat) (cells113 : List Value) (F115 : PH), PH.le F12 F115 ∧ Cat (Kind.sl 8 (Kind.int .i64)) F115 cells113 s105.1 ∧ Bnd 24 s105.1 ∧ Has Try.f28.ntmps a [(1, .slice pA1 a1.length pc1), (6, .slice A110 s105.1.length c111), (9, .bool s105.2)] ∧ Sat ⟨w0, fun b => m0 b ≠ none, F⟩ F115 [rowo A110 s105.1.length c111 26 1 cells113] w) ?_ ?_
   ·skip
    intro a w ha hs
    exact ⟨A15, c16, cells18, F12, (PH.le_refl _), h17, b19, ha.covers ⟨rfl, rfl, rfl, trivial⟩, (Among.of (Among.take 0 rfl rfl Among.none) _ hs)⟩
   ·rintro s105 o106 co107 hm ho108 a w ⟨A110, c111, cells113, F115, l116, h112, b114, ha, hs⟩
    refine St.use (?_ : St _ _ _ _ _ _) ha hs
    clear ha hs a w
    refine St.seq ?_
    refine St.seq ?_
    refine St.region ?_
    refine St.val (v := (.bool s105.2)) (Yields.move rfl) trivial rfl rfl ?_
    refine St.nil ?_
    refine St.norm ?_
    refine St.cond_b rfl ?_ ?_
    ·intro q117
     replace q117 : s105.2 = true := q117
     replace hm := iT hm q117
     refine St.skip ?_
     refine St.norm ?_
     refine St.block ?_
     refine St.seq ?_
     refine St.region ?_
     refine St.val (v := (.bool false)) (Yields.assign rfl) trivial rfl rfl ?_
     refine St.nil ?_
     refine St.norm ?_
     refine St.seq ?_
     refine St.region ?_
     refine St.val (v := (.slice pA1 a1.length pc1)) (Yields.move rfl) trivial rfl rfl ?_
     refine St.val (v := (.int .i64 ((a1.length : Nat) : Int))) (Yields.lenSlice tu23 rfl) trivial rfl rfl ?_
     refine St.val (v := (.int .i64 0)) (Yields.move rfl) trivial rfl rfl ?_
     refine St.nil ?_
     refine St.norm ?_
     refine St.block ?_
     refine St.loopM hm (fun s128 a w => ∃ (A133 : Option Addr) (c134 : Nat) (cells136 : List Value) (F138 : PH), PH.le F115 F138 ∧ Cat (Kind.sl 8 (Kind.int .i64)) F138 cells136 s128.1 ∧ Bnd 24 s128.1 ∧ Has Try.f28.ntmps a [(1, .slice pA1 a1.length pc1), (6, .slice A133 s128.1.length c134), (9, .bool s128.2.1), (38, .slice pA1 a1.length pc1), (39, .int .i64 ((a1.length : Nat) : Int)), (40, .int .i64 ((s128.2.2 : Nat) : Int))] ∧ Sat ⟨w0, fun b => m0 b ≠ none, F⟩ F138 [rowo A133 s128.1.length c134 26 1 cells136] w) ?_ ?_
     ·skip
      intro a w ha hs
      exact ⟨A110, c111, cells113, F115, (PH.le_refl _), h112, b114, ha.covers ⟨rfl, rfl, rfl, rfl, rfl, rfl, trivial⟩, (Among.of (Among.take 0 rfl rfl Among.none) _ hs)⟩
     ·rintro s128 o129 co130 hm ho131 a w ⟨A133, c134, cells136, F138, l139, h135, b137, ha, hs⟩
      refine St.use (?_ : St _ _ _ _ _ _) ha hs
      clear ha hs a w
      refine St.seq ?_
      refine St.region ?_
      refine St.val (v := (.bool (decide (((s128.2.2 : Nat) : Int) < ((a1.length : Nat) : Int))))) (Yields.lt rfl rfl) trivial rfl rfl ?_
      refine St.nil ?_
      refine St.norm ?_
      refine St.seq ?_
      refine St.cond_b rfl ?_ ?_
      ·intro q140
       replace q140 : ((s128.2.2 : Nat) : Int) < ((a1.length : Nat) : Int) := of_decide_eq_true q140
       replace hm := iT hm q140
       refine St.skip ?_
       refine St.norm ?_
       obtain ⟨o150, hm, ho151⟩ := jS hm
       refine St.cutI (fun a w => ∃ z141 : List (List Int) × Bool, o150 = .inl z141 ∧ ∃ (A145 : Option Addr) (c146 : Nat) (cells148 : List Value) (F142 : PH), PH.le F138 F142 ∧ Cat (Kind.sl 8 (Kind.int .i64)) F142 cells148 z141.1 ∧ Bnd 24 z141.1 ∧ Has Try.f28.ntmps a [(1, .slice pA1 a1.length pc1), (6, .slice A145 z141.1.length c146), (9, .bool z141.2), (38, .slice pA1 a1.length pc1), (39, .int .i64 ((a1.length : Nat) : Int)), (40, .int .i64 ((s128.2.2 : Nat) : Int))] ∧ Sat ⟨w0, fun b => m0 b ≠ none, F⟩ F142 [rowo A145 z141.1.length c146 26 1 cells148] w) ?_ ?_
       ·skip
        refine St.block ?_
        refine St.seq ?_
        refine St.region ?_
        obtain ⟨x152, e153, hm⟩ := bS hm
        obtain ⟨p154, cs155, jx156, R157, k158⟩ := (Fsl.mono (PH.le_trans l13 (PH.le_trans l116 l139)) ph1).nidx e153
        obtain ⟨A159, c160, A162, c163, A165, c166, rfl, h161, h164, h167⟩ := DLimit.opn R157
        refine St.val (v := (.pointer (some p154))) (Yields.idx jx156 ts23 rfl rfl) trivial rfl rfl ?_
        refine St.val (v := (.agg #[.int .i64 x152.Kind, .slice A159 x152.Vars.length c160, .slice A162 x152.A.length c163, .int .i64 x152.B, .slice A165 x152.Rows.length c166])) (Yields.load rfl (Loads.Fatn0 k158 ta28)) trivial rfl rfl ?_
        refine St.alloc tz28 trivial rfl ?_
        intro b171
        refine St.storen (R := [rowo A133 s128.1.length c134 26 1 cells136]) rfl rfl 0 rfl rfl ta28 rfl rfl rfl trivial (cs' := #[.int .i64 x152.Kind, .slice A159 x152.Vars.length c160, .slice A162 x152.A.length c163, .int .i64 x152.B, .slice A165 x152.Rows.length c166]) rfl ?_
        refine St.nil ?_
        refine St.norm ?_
        refine St.seq ?_
        refine St.seq ?_
        refine St.region ?_
        refine St.val (v := (.pointer (some ⟨b171, 1, none⟩))) (Yields.fieldAddr (v := (.pointer (some ⟨b171, 1, none⟩))) rfl (fun _ => by kernel_rfl)) trivial rfl rfl ?_
        refine St.val (v := (.slice A159 x152.Vars.length c160)) (Yields.load rfl (Loads.H1 0 rfl tc26 rfl)) trivial rfl rfl ?_
        refine St.val (v := (.int .i64 ((x152.Vars.length : Nat) : Int))) (Yields.lenSlice tu26 rfl) trivial rfl rfl ?_
        refine St.val (v := (.bool (decide (((x152.Vars.length : Nat) : Int) = 0)))) (Yields.eq rfl rfl) trivial rfl rfl ?_
        refine St.nil ?_
        refine St.norm ?_
        refine St.cond_b rfl ?_ ?_
        ·intro q172
         replace q172 : ((x152.Vars.length : Nat) : Int) = 0 := of_decide_eq_true q172
         replace hm := iT hm q172
         obtain ⟨o176, hm, ho177⟩ := jS hm
         refine St.cutI (fun a w => ∃ z173 : Unit, o176 = .inl z173 ∧ ∃ (F174 : PH), PH.le F138 F174 ∧ Has Try.f28.ntmps a [(1, .slice pA1 a1.length pc1), (6, .slice A133 s128.1.length c134), (9, .bool s128.2.1), (38, .slice pA1 a1.length pc1), (39, .int .i64 ((a1.length : Nat) : Int)), (40, .int .i64 ((s128.2.2 : Nat) : Int))] ∧ Sat ⟨w0, fun b => m0 b ≠ none, F⟩ F174 [rowo A133 s128.1.length c134 26 1 cells136] w) ?_ ?_
         ·skip
          refine St.seq ?_
          refine St.region ?_
          refine St.val (v := (.agg #[.int .i64 x152.Kind, .slice A159 x152.Vars.length c160, .slice A162 x152.A.length c163, .int .i64 x152.B, .slice A165 x152.Rows.length c166])) (Yields.load rfl (Loads.Hk (vs := [.int .i64 x152.Kind, .slice A159 x152.Vars.length c160, .slice A162 x152.A.length c163, .int .i64 x152.B, .slice A165 x152.Rows.length c166]) 0 rfl ta28 rfl rfl)) trivial rfl rfl ?_
          obtain ⟨q178, e179, hm⟩ := bS hm
          refine St.call [blk b171 (.cells #[.int .i64 x152.Kind, .slice A159 x152.Vars.length c160, .slice A162 x152.A.length c163, .int .i64 x152.B, .slice A165 x152.Rows.length c166] 28 (0, 0)), rowo A133 s128.1.length c134 26 1 cells136] (m_domain_of_sp (a0 := x152) h161 h164 h167 e179) rfl (fun _ ha => ev1 ha rfl) rfl en34 rfl rfl trivial ?_
          rintro v182 F180 _ ⟨_, rfl, h183, rfl⟩ l181
          rcases ILimit.cases q178 with hx184 | ⟨y185, hx184⟩ | ⟨y186, hx184⟩ | ⟨y187, hx184⟩
          ·have h188 := h183
           rw [hx184] at hm h188; rw [ILimit.on_nil] at hm
           obtain rfl : v182 = .nilIface := h188
           exact nomatch (show (none : Option _) = some _ from hm)
          ·have h188 := h183
           rw [hx184] at hm h188; rw [ILimit.on_c78] at hm
           obtain ⟨cs189, R190, rfl⟩ := Ival.agg h188
           obtain rfl := DApart.opn R190
           obtain ⟨q192, e193, hm⟩ := bS hm
           refine St.invoke [blk b171 (.cells #[.int .i64 x152.Kind, .slice A159 x152.Vars.length c160, .slice A162 x152.A.length c163, .int .i64 x152.B, .slice A165 x152.Rows.length c166] 28 (0, 0)), rowo A133 s128.1.length c134 26 1 cells136] (m_domain_apart_holds_sp (a0 := (DApart.mk)) Fsl.nil e193) rfl (fun _ ha => ev1 ha rfl) rfl iv78_holds rfl rfl trivial ?_
           rintro _ F194 _ ⟨rfl, rfl⟩ l195
           refine St.val (v := (.bool (!q192))) (Yields.not rfl) trivial rfl rfl ?_
           refine St.nil ?_
           refine St.norm ?_
           refine St.cond_b rfl ?_ ?_
           ·intro q196
            replace q196 : ¬ (q192 = true) := nb_t q196
            replace hm := iF hm q196
            refine St.seq ?_
            refine St.region ?_
            refine St.val (v := (.slice none 0 0)) (Yields.assign rfl) trivial rfl rfl ?_
            refine St.val (v := (.bool false)) (Yields.assign rfl) trivial rfl rfl ?_
            refine St.nil ?_
            refine St.norm ?_
            refine St.ret ?_
            refine St.thenret ?_
            refine St.thenret ?_
            refine St.inret ?_
            refine St.thenret ?_
            refine St.thenret ?_
            refine St.inret ?_
            refine St.inret ?_
            refine St.thenret ?_
            refine St.inret ?_
            refine St.thenret ?_
            obtain rfl := sI hm
            obtain rfl := aR ho177
            obtain rfl := aR ho151
            obtain rfl := aR ho131
            obtain rfl := aR ho108
            obtain rfl := aR ho95
            exact St.doneR2 rfl rfl rfl ⟨none, 0, rfl, Fsl.nil, rfl⟩ (fun w hs => Among.of Among.none w hs)
           ·intro q197
            replace q197 : q192 = true := nb_f q197
            replace hm := iT hm q197
            refine St.skip ?_
            obtain rfl := sI hm
            intro a w ha hs
            exact ⟨(), rfl, F194, (PH.le_trans l181 l195), ha.covers ⟨rfl, rfl, rfl, rfl, rfl, rfl, trivial⟩, (Among.of (Among.take 1 rfl rfl Among.none) _ hs)⟩
          ·have h188 := h183
           rw [hx184] at hm h188; rw [ILimit.on_c80] at hm
           obtain ⟨cs198, R199, rfl⟩ := Ival.agg h188
           obtain ⟨A201, c202, rfl, h203⟩ := DTable.opn R199
           obtain ⟨q205, e206, hm⟩ := bS hm
           refine St.invoke [blk b171 (.cells #[.int .i64 x152.Kind, .slice A159 x152.Vars.length c160, .slice A162 x152.A.length c163, .int .i64 x152.B, .slice A165 x152.Rows.length c166] 28 (0, 0)), rowo A133 s128.1.length c134 26 1 cells136] (m_domain_table_holds_sp (a0 := y186) h203 Fsl.nil e206) rfl (fun _ ha => ev1 ha rfl) rfl iv80_holds rfl rfl trivial ?_
           rintro _ F207 _ ⟨rfl, rfl⟩ l208
           refine St.val (v := (.bool (!q205))) (Yields.not rfl) trivial rfl rfl ?_
           refine St.nil ?_
           refine St.norm ?_
           refine St.cond_b rfl ?_ ?_
           ·intro q209
            replace q209 : ¬ (q205 = true) := nb_t q209
            replace hm := iF hm q209
            refine St.seq ?_
            refine St.region ?_
            refine St.val (v := (.slice none 0 0)) (Yields.assign rfl) trivial rfl rfl ?_
            refine St.val (v := (.bool false)) (Yields.assign rfl) trivial rfl rfl ?_
            refine St.nil ?_
            refine St.norm ?_
            refine St.ret ?_
            refine St.thenret ?_
            refine St.thenret ?_
            refine St.inret ?_
            refine St.thenret ?_
            refine St.thenret ?_
            refine St.inret ?_
            refine St.inret ?_
            refine St.thenret ?_
            refine St.inret ?_
            refine St.thenret ?_
            obtain rfl := sI hm
            obtain rfl := aR ho177
            obtain rfl := aR ho151
            obtain rfl := aR ho131
            obtain rfl := aR ho108
            obtain rfl := aR ho95
            exact St.doneR2 rfl rfl rfl ⟨none, 0, rfl, Fsl.nil, rfl⟩ (fun w hs => Among.of Among.none w hs)
           ·intro q210
            replace q210 : q205 = true := nb_f q210
            replace hm := iT hm q210
            refine St.skip ?_
            obtain rfl := sI hm
            intro a w ha hs
            exact ⟨(), rfl, F207, (PH.le_trans l181 l208), ha.covers ⟨rfl, rfl, rfl, rfl, rfl, rfl, trivial⟩, (Among.of (Among.take 1 rfl rfl Among.none) _ hs)⟩
          ·have h188 := h183
           rw [hx184] at hm h188; rw [ILimit.on_c82] at hm
           obtain ⟨cs211, R212, rfl⟩ := Ival.agg h188
           obtain ⟨A214, c215, A217, c218, A220, c221, rfl, h216, h219, h222⟩ := DSum.opn R212
           obtain ⟨q226, e227, hm⟩ := bS hm
           refine St.invoke [blk b171 (.cells #[.int .i64 x152.Kind, .slice A159 x152.Vars.length c160, .slice A162 x152.A.length c163, .int .i64 x152.B, .slice A165 x152.Rows.length c166] 28 (0, 0)), rowo A133 s128.1.length c134 26 1 cells136] (m_domain_sum_holds_sp (a0 := y187) h216 h219 h222 Fsl.nil e227) rfl (fun _ ha => ev1 ha rfl) rfl iv82_holds rfl rfl trivial ?_
           rintro _ F228 _ ⟨rfl, rfl⟩ l229
           refine St.val (v := (.bool (!q226))) (Yields.not rfl) trivial rfl rfl ?_
           refine St.nil ?_
           refine St.norm ?_
           refine St.cond_b rfl ?_ ?_
           ·intro q230
            replace q230 : ¬ (q226 = true) := nb_t q230
            replace hm := iF hm q230
            refine St.seq ?_
            refine St.region ?_
            refine St.val (v := (.slice none 0 0)) (Yields.assign rfl) trivial rfl rfl ?_
            refine St.val (v := (.bool false)) (Yields.assign rfl) trivial rfl rfl ?_
            refine St.nil ?_
            refine St.norm ?_
            refine St.ret ?_
            refine St.thenret ?_
            refine St.thenret ?_
            refine St.inret ?_
            refine St.thenret ?_
            refine St.thenret ?_
            refine St.inret ?_
            refine St.inret ?_
            refine St.thenret ?_
            refine St.inret ?_
            refine St.thenret ?_
            obtain rfl := sI hm
            obtain rfl := aR ho177
            obtain rfl := aR ho151
            obtain rfl := aR ho131
            obtain rfl := aR ho108
            obtain rfl := aR ho95
            exact St.doneR2 rfl rfl rfl ⟨none, 0, rfl, Fsl.nil, rfl⟩ (fun w hs => Among.of Among.none w hs)
           ·intro q231
            replace q231 : q226 = true := nb_f q231
            replace hm := iT hm q231
            refine St.skip ?_
            obtain rfl := sI hm
            intro a w ha hs
            exact ⟨(), rfl, F228, (PH.le_trans l181 l229), ha.covers ⟨rfl, rfl, rfl, rfl, rfl, rfl, trivial⟩, (Among.of (Among.take 1 rfl rfl Among.none) _ hs)⟩
         ·rintro a w ⟨z173, rfl, F174, l175, ha, hs⟩
          replace hm := aL ho177
          refine St.use (?_ : St _ _ _ _ _ _) ha hs
          clear ha hs a w
          refine St.exit ?_
          refine St.thenexit ?_
          refine St.inexit ?_
          obtain rfl := sI hm
          intro a w ha hs
          exact ⟨(s128.1, s128.2.1), rfl, A133, c134, cells136, F174, l175, (Cat.mono l175 h135), b137, ha.covers ⟨rfl, rfl, rfl, rfl, rfl, rfl, trivial⟩, (Among.of (Among.take 0 rfl rfl Among.none) _ hs)⟩
        ·intro q232
         replace q232 : ¬ (((x152.Vars.length : Nat) : Int) = 0) := of_decide_eq_false q232
         replace hm := iF hm q232
         refine St.skip ?_
         refine St.norm ?_
         refine St.seq ?_
         refine St.region ?_
         refine St.val (v := (.slice A133 s128.1.length c134)) (Yields.move rfl) trivial rfl rfl ?_
         refine St.val (v := (.agg #[.int .i64 x152.Kind, .slice A159 x152.Vars.length c160, .slice A162 x152.A.length c163, .int .i64 x152.B, .slice A165 x152.Rows.length c166])) (Yields.load rfl (Loads.Hk (vs := [.int .i64 x152.Kind, .slice A159 x152.Vars.length c160, .slice A162 x152.A.length c163, .int .i64 x152.B, .slice A165 x152.Rows.length c166]) 0 rfl ta28 rfl rfl)) trivial rfl rfl ?_
         refine St.pick (R := [blk b171 (.cells #[.int .i64 x152.Kind, .slice A159 x152.Vars.length c160, .slice A162 x152.A.length c163, .int .i64 x152.B, .slice A165 x152.Rows.length c166] 28 (0, 0))]) 1 rfl rfl ?_
         obtain ⟨q233, e234, hm⟩ := bS hm
         refine St.call [blk b171 (.cells #[.int .i64 x152.Kind, .slice A159 x152.Vars.length c160, .slice A162 x152.A.length c163, .int .i64 x152.B, .slice A165 x152.Rows.length c166] 28 (0, 0))] (m_domain_support_sp (a1 := x152) h135 b137 h161 h164 h167 e234) rfl (fun _ ha => ev2 ha rfl rfl) rfl en52 rfl rfl trivial ?_
         rintro _ F235 _ ⟨A237, c238, rfl, h239, rfl⟩ l236
         refine St.val (v := (.int .i64 ((q233.length : Nat) : Int))) (Yields.lenSlice tu73 rfl) trivial rfl rfl ?_
         refine St.val (v := (.int .i64 0)) (Yields.move rfl) trivial rfl rfl ?_
         refine St.nil ?_
         refine St.norm ?_
         refine St.block ?_
         refine St.loopM hm (fun s251 a w => ∃ (A256 : Option Addr) (c257 : Nat) (cells259 : List Value) (F261 : PH), PH.le F235 F261 ∧ Cat (Kind.sl 8 (Kind.int .i64)) F261 cells259 s251.1 ∧ Bnd 24 s251.1 ∧ Has Try.f28.ntmps a [(1, .slice pA1 a1.length pc1), (6, .slice A256 s251.1.length c257), (9, .bool s251.2.1), (11, .pointer (some ⟨b171, 0, none⟩)), (38, .slice pA1 a1.length pc1), (39, .int .i64 ((a1.length : Nat) : Int)), (40, .int .i64 ((s128.2.2 : Nat) : Int)), (54, .slice A237 q233.length c238), (55, .int .i64 ((q233.length : Nat) : Int)), (56, .int .i64 ((s251.2.2 : Nat) : Int))] ∧ Sat ⟨w0, fun b => m0 b ≠ none, F⟩ F261 [blk b171 (.cells #[.int .i64 x152.Kind, .slice A159 x152.Vars.length c160, .slice A162 x152.A.length c163, .int .i64 x152.B, .slice A165 x152.Rows.length c166] 28 (0, 0)), rowo A256 s251.1.length c257 26 1 cells259] w) ?_ ?_
         ·skip
          intro a w ha hs
          exact ⟨A133, c134, cells136, F235, (PH.le_refl _), (Cat.mono l236 h135), b137, ha.covers ⟨rfl, rfl, rfl, rfl, rfl, rfl, rfl, rfl, rfl, rfl, trivial⟩, (Among.of (Among.take 1 rfl rfl (Among.take 0 rfl rfl Among.none)) _ hs)⟩
         ·rintro s251 o252 co253 hm ho254 a w ⟨A256, c257, cells259, F261, l262, h258, b260, ha, hs⟩
          refine St.use (?_ : St _ _ _ _ _ _) ha hs
          clear ha hs a w
          refine St.seq ?_
          refine St.region ?_
          refine St.val (v := (.bool (decide (((s251.2.2 : Nat) : Int) < ((q233.length : Nat) : Int))))) (Yields.lt rfl rfl) trivial rfl rfl ?_
          refine St.nil ?_
          refine St.norm ?_
          refine St.seq ?_
          refine St.cond_b rfl ?_ ?_
          ·intro q263
           replace q263 : ((s251.2.2 : Nat) : Int) < ((q233.length : Nat) : Int) := of_decide_eq_true q263
           replace hm := iT hm q263
           refine St.skip ?_
           refine St.norm ?_
           refine St.seq ?_
           refine St.block ?_
           refine St.seq ?_
           refine St.region ?_
           refine St.val (v := (.int .i64 ((s251.2.2 : Nat) : Int))) (Yields.move rfl) trivial rfl rfl ?_
           obtain ⟨x264, e265, hm⟩ := bS hm
           obtain ⟨p266, cs267, jx268, R269, k270⟩ := (Fsl.mono l262 h239).nidx e265
           obtain ⟨hl271, hC272⟩ := R269
           refine St.val (v := (.pointer (some p266))) (Yields.idx jx268 ts73 rfl rfl) trivial rfl rfl ?_
           refine St.val (v := (.agg cs267.toArray)) (Yields.load rfl (Loads.Fatm k270 (by have q_ := Cat.length hC272; have q_2 : (Kind.bool).sz = 1 := rfl; rw [q_2, hl271] at q_; omega) ta76)) trivial rfl rfl ?_
           refine St.alloc tz76 trivial rfl ?_
           intro b273
           refine St.val (v := (.int .i64 ((s251.2.2 : Nat) : Int))) (Yields.assign rfl) trivial rfl rfl ?_
           refine St.storeArr (R := [blk b171 (.cells #[.int .i64 x152.Kind, .slice A159 x152.Vars.length c160, .slice A162 x152.A.length c163, .int .i64 x152.B, .slice A165 x152.Rows.length c166] 28 (0, 0)), rowo A256 s251.1.length c257 26 1 cells259]) hC272 hl271 rfl rfl rfl 0 rfl rfl ta76 rfl rfl trivial ?_
           refine St.nil ?_
           refine St.norm ?_
           refine St.seq ?_
           refine St.region ?_
           refine St.val (v := (.pointer (some ⟨b171, 1, none⟩))) (Yields.fieldAddr (v := (.pointer (some ⟨b171, 1, none⟩))) rfl (fun _ => by kernel_rfl)) trivial rfl rfl ?_
           refine St.val (v := (.slice A159 x152.Vars.length c160)) (Yields.load rfl (Loads.H1 1 rfl tc26 rfl)) trivial rfl rfl ?_
           refine St.val (v := (.int .i64 ((s251.2.2 : Nat) : Int))) (Yields.move rfl) trivial rfl rfl ?_
           obtain ⟨x275, e276, hm⟩ := bS hm
           obtain ⟨p277, cs278, jx279, R280, k281⟩ := (Fsl.mono (PH.le_trans l236 l262) h161).nidx e276
           obtain rfl := R280
           refine St.val (v := (.pointer (some p277))) (Yields.idx jx279 ts26 rfl rfl) trivial rfl rfl ?_
           refine St.val (v := (.int .i64 x275)) (Yields.load rfl (Loads.Fat k281 tc3 rfl)) trivial rfl rfl ?_
           refine St.val (v := (.int .i64 x275)) (Yields.assign rfl) trivial rfl rfl ?_
           refine St.nil ?_
           refine St.norm ?_
           refine St.seq ?_
           refine St.region ?_
           refine St.val (v := (.slice none 0 0)) (Yields.assign rfl) trivial rfl rfl ?_
           refine St.nil ?_
           refine St.norm ?_
           obtain ⟨z282, hm, hk289⟩ := bS hm
           refine St.cutI (fun a w => ∃ (A284 : Option Addr) (c285 : Nat) (cells287 : List Value), Cat (Kind.int .i64) F261 cells287 z282 ∧ Bnd 8 z282 ∧ Has Try.f28.ntmps a [(1, .slice pA1 a1.length pc1), (6, .slice A256 s251.1.length c257), (9, .bool s251.2.1), (11, .pointer (some ⟨b171, 0, none⟩)), (14, .int .i64 x275), (15, .slice A284 z282.length c285), (38, .slice pA1 a1.length pc1), (39, .int .i64 ((a1.length : Nat) : Int)), (40, .int .i64 ((s128.2.2 : Nat) : Int)), (54, .slice A237 q233.length c238), (55, .int .i64 ((q233.length : Nat) : Int)), (56, .int .i64 ((s251.2.2 : Nat) : Int))] ∧ Sat ⟨w0, fun b => m0 b ≠ none, F⟩ F261 [blk b171 (.cells #[.int .i64 x152.Kind, .slice A159 x152.Vars.length c160, .slice A162 x152.A.length c163, .int .i64 x152.B, .slice A165 x152.Rows.length c166] 28 (0, 0)), rowo A256 s251.1.length c257 26 1 cells259, rowo A284 z282.length c285 3 1 cells287] w) ?_ ?_
           ·skip
            refine St.seq ?_
            refine St.region ?_
            refine St.val (v := (.slice A256 s251.1.length c257)) (Yields.move rfl) trivial rfl rfl ?_
            refine St.val (v := (.int .i64 x275)) (Yields.move rfl) trivial rfl rfl ?_
            obtain ⟨x290, e291, hm⟩ := bS hm
            obtain ⟨jx292, jx293, cs294, R295, k296⟩ := h258.idx e291
            obtain ⟨A297, c298, rfl, h299⟩ := R295
            refine St.rowo_at 2 rfl (by omega) ?_
            intro hA301
            refine St.val (v := (.pointer (some ⟨bk A256, bo A256 + x275.toNat * 1, none⟩))) (Yields.idx (IdxAt.own hA301 jx292 jx293) ts22 rfl rfl) trivial rfl rfl ?_
            refine St.val (v := (.slice A297 x290.length c298)) (Yields.load rfl (Loads.rA1 2 rfl tc26 (k296 0 _ rfl))) trivial rfl rfl ?_
            refine St.val (v := (.int .i64 ((x290.length : Nat) : Int))) (Yields.lenSlice tu26 rfl) trivial rfl rfl ?_
            refine St.val (v := (.int .i64 0)) (Yields.move rfl) trivial rfl rfl ?_
            refine St.nil ?_
            refine St.norm ?_
            refine St.block ?_
            refine St.loopM hm (fun s310 a w => ∃ (A315 : Option Addr) (c316 : Nat) (cells318 : List Value), Cat (Kind.int .i64) F261 cells318 s310.1 ∧ Bnd 8 s310.1 ∧ Has Try.f28.ntmps a [(1, .slice pA1 a1.length pc1), (6, .slice A256 s251.1.length c257), (9, .bool s251.2.1), (11, .pointer (some ⟨b171, 0, none⟩)), (13, .pointer (some ⟨b273, 0, none⟩)), (14, .int .i64 x275), (15, .slice A315 s310.1.length c316), (38, .slice pA1 a1.length pc1), (39, .int .i64 ((a1.length : Nat) : Int)), (40, .int .i64 ((s128.2.2 : Nat) : Int)), (54, .slice A237 q233.length c238), (55, .int .i64 ((q233.length : Nat) : Int)), (56, .int .i64 ((s251.2.2 : Nat) : Int)), (69, .slice A297 x290.length c298), (70, .int .i64 ((x290.length : Nat) : Int)), (71, .int .i64 ((s310.2 : Nat) : Int))] ∧ Sat ⟨w0, fun b => m0 b ≠ none, F⟩ F261 [blk b171 (.cells #[.int .i64 x152.Kind, .slice A159 x152.Vars.length c160, .slice A162 x152.A.length c163, .int .i64 x152.B, .slice A165 x152.Rows.length c166] 28 (0, 0)), rowo A256 s251.1.length c257 26 1 cells259, rowo (some ⟨b273, 0, none⟩) x264.length 30 76 1 cs267, rowo A315 s310.1.length c316 3 1 cells318] w) ?_ ?_
            ·skip
             refine St.rowo_new 3 1 ?_
             intro a w ha hs
             exact ⟨none, 0, [], (show Cat (Kind.int .i64) _ [] [] from rfl), Bnd.of_nil, ha.covers ⟨rfl, rfl, rfl, rfl, rfl, rfl, rfl, rfl, rfl, rfl, rfl, rfl, rfl, rfl, rfl, rfl, trivial⟩, (Among.of (Among.take 2 rfl rfl (Among.take 2 rfl rfl (Among.take 1 rfl rfl (Among.take 0 rfl rfl Among.none)))) _ hs)⟩
            ·rintro s310 o311 co312 hm ho313 a w ⟨A315, c316, cells318, h317, b319, ha, hs⟩
             refine St.use (?_ : St _ _ _ _ _ _) ha hs
             clear ha hs a w
             refine St.seq ?_
             refine St.region ?_
             refine St.val (v := (.bool (decide (((s310.2 : Nat) : Int) < ((x290.length : Nat) : Int))))) (Yields.lt rfl rfl) trivial rfl rfl ?_
             refine St.nil ?_
             refine St.norm ?_
             refine St.seq ?_
             refine St.cond_b rfl ?_ ?_
             ·intro q321
              replace q321 : ((s310.2 : Nat) : Int) < ((x290.length : Nat) : Int) := of_decide_eq_true q321
              replace hm := iT hm q321
              refine St.skip ?_
              refine St.norm ?_
              obtain ⟨z322, hm, hk329⟩ := bS hm
              refine St.cutI (fun a w => ∃ (A324 : Option Addr) (c325 : Nat) (cells327 : List Value), Cat (Kind.int .i64) F261 cells327 z322 ∧ Bnd 8 z322 ∧ Has Try.f28.ntmps a [(1, .slice pA1 a1.length pc1), (6, .slice A256 s251.1.length c257), (9, .bool s251.2.1), (11, .pointer (some ⟨b171, 0, none⟩)), (13, .pointer (some ⟨b273, 0, none⟩)), (14, .int .i64 x275), (15, .slice A324 z322.length c325), (38, .slice pA1 a1.length pc1), (39, .int .i64 ((a1.length : Nat) : Int)), (40, .int .i64 ((s128.2.2 : Nat) : Int)), (54, .slice A237 q233.length c238), (55, .int .i64 ((q233.length : Nat) : Int)), (56, .int .i64 ((s251.2.2 : Nat) : Int)), (69, .slice A297 x290.length c298), (70, .int .i64 ((x290.length : Nat) : Int)), (71, .int .i64 ((s310.2 : Nat) : Int))] ∧ Sat ⟨w0, fun b => m0 b ≠ none, F⟩ F261 [blk b171 (.cells #[.int .i64 x152.Kind, .slice A159 x152.Vars.length c160, .slice A162 x152.A.length c163, .int .i64 x152.B, .slice A165 x152.Rows.length c166] 28 (0, 0)), rowo A256 s251.1.length c257 26 1 cells259, rowo (some ⟨b273, 0, none⟩) x264.length 30 76 1 cs267, rowo A324 z322.length c325 3 1 cells327] w) ?_ ?_
              ·skip
               refine St.block ?_
               refine St.seq ?_
               refine St.region ?_
               refine St.val (v := (.int .i64 ((s310.2 : Nat) : Int))) (Yields.move rfl) trivial rfl rfl ?_
               obtain ⟨x330, e331, hm⟩ := bS hm
               obtain ⟨p332, cs333, jx334, R335, k336⟩ := h299.nidx e331
               obtain rfl := R335
               refine St.val (v := (.pointer (some p332))) (Yields.idx jx334 ts26 rfl rfl) trivial rfl rfl ?_
               refine St.val (v := (.int .i64 x330)) (Yields.load rfl (Loads.Fat k336 tc3 rfl)) trivial rfl rfl ?_
               refine St.val (v := (.int .i64 ((s310.2 : Nat) : Int))) (Yields.assign rfl) trivial rfl rfl ?_
               refine St.val (v := (.int .i64 x330)) (Yields.assign rfl) trivial rfl rfl ?_
               refine St.nil ?_
               refine St.norm ?_
               refine St.seq ?_
               refine St.region ?_
               refine St.val (v := (.int .i64 ((s310.2 : Nat) : Int))) (Yields.move rfl) trivial rfl rfl ?_
               obtain ⟨x337, e338, hm⟩ := bS hm
               replace e338 := nlit e338
               obtain ⟨jx339, jx340, cs341, R342, k343⟩ := Cat.idx hC272 e338
               obtain rfl := R342
               rw [hl271] at jx340
               refine St.val (v := (.pointer (some ⟨bk (some ⟨b273, 0, none⟩), bo (some ⟨b273, 0, none⟩) + (s310.2 : Int).toNat * 1, none⟩))) (Yields.indexArr (p := ⟨bk (some ⟨b273, 0, none⟩), bo (some ⟨b273, 0, none⟩) + (s310.2 : Int).toNat * 1, none⟩) tr76 rfl rfl jx339 jx340 (add_off _ _ _)) trivial rfl rfl ?_
               refine St.val (v := (.bool x337)) (Yields.load rfl (Loads.rA1 2 rfl tc4 (k343 0 _ rfl))) trivial rfl rfl ?_
               refine St.nil ?_
               refine St.norm ?_
               refine St.cond_b rfl ?_ ?_
               ·intro q344
                replace q344 : x337 = true := q344
                replace hm := iT hm q344
                refine St.region ?_
                refine St.val (v := (.slice A315 s310.1.length c316)) (Yields.move rfl) trivial rfl rfl ?_
                refine St.val (v := (.int .i64 x330)) (Yields.move rfl) trivial rfl rfl ?_
                refine St.buildSlice (e := 3) (cells := #[.int .i64 x330]) (vs := #[(0, .int .i64 x330)]) (fun _ ha => evp1 ha rfl) (fun _ => by kernel_rfl) rfl trivial ?_
                intro b345
                obtain ⟨x350, e351, hm⟩ := bS hm
                refine St.pushL (R := [blk b345 (.cells #[.int .i64 x330] 3 (0, 0)), blk b171 (.cells #[.int .i64 x152.Kind, .slice A159 x152.Vars.length c160, .slice A162 x152.A.length c163, .int .i64 x152.B, .slice A165 x152.Rows.length c166] 28 (0, 0)), rowo A256 s251.1.length c257 26 1 cells259, rowo (some ⟨b273, 0, none⟩) x264.length 30 76 1 cs267]) (R3 := [blk b171 (.cells #[.int .i64 x152.Kind, .slice A159 x152.Vars.length c160, .slice A162 x152.A.length c163, .int .i64 x152.B, .slice A165 x152.Rows.length c166] 28 (0, 0)), rowo A256 s251.1.length c257 26 1 cells259, rowo (some ⟨b273, 0, none⟩) x264.length 30 76 1 cs267]) e351 ts26 rfl rfl rfl rfl rfl 4 rfl rfl 0 rfl 0 rfl rfl h317 ⟨[.int .i64 x330], _, rfl, rfl, rfl⟩ rfl trivial ?_
                intro A346 c347 cells348 h349
                refine St.val (v := (.slice A346 x350.length c347)) (Yields.assign rfl) trivial rfl rfl ?_
                refine St.nil ?_
                refine St.innorm ?_
                obtain rfl := sI hm
                intro a w ha hs
                exact ⟨A346, c347, cells348, h349, (Bnd.of_push e351), ha.covers ⟨rfl, rfl, rfl, rfl, rfl, rfl, rfl, rfl, rfl, rfl, rfl, rfl, rfl, rfl, rfl, rfl, trivial⟩, (Among.of (Among.take 1 rfl rfl (Among.take 1 rfl rfl (Among.take 1 rfl rfl (Among.take 0 rfl rfl Among.none)))) _ hs)⟩
               ·intro q353
                replace q353 : ¬ (x337 = true) := bf q353
                replace hm := iF hm q353
                refine St.skip ?_
                refine St.innorm ?_
                obtain rfl := sI hm
                intro a w ha hs
                exact ⟨A315, c316, cells318, h317, b319, ha.covers ⟨rfl, rfl, rfl, rfl, rfl, rfl, rfl, rfl, rfl, rfl, rfl, rfl, rfl, rfl, rfl, rfl, trivial⟩, (Among.of (Among.take 0 rfl rfl (Among.take 0 rfl rfl (Among.take 0 rfl rfl (Among.take 0 rfl rfl Among.none)))) _ hs)⟩
              ·rintro a w ⟨A324, c325, cells327, h326, b328, ha, hs⟩
               replace hm := hk329
               refine St.use (?_ : St _ _ _ _ _ _) ha hs
               clear ha hs a w
               refine St.region ?_
               refine St.val (v := (.int .i64 ((s310.2 + 1 : Nat) : Int))) (Yields.addn (j := 1) rfl rfl rfl (by have q_0 := q321; have q_1 := h299.bnd.2; omega)) trivial rfl rfl ?_
               refine St.val (v := (.int .i64 ((s310.2 + 1 : Nat) : Int))) (Yields.move rfl) trivial rfl rfl ?_
               refine St.nil ?_
               refine St.norm ?_
               obtain rfl := sI hm
               intro a w ha hs
               exact ⟨(z322, s310.2 + 1), aL ho313, A324, c325, cells327, h326, b328, ha.covers ⟨rfl, rfl, rfl, rfl, rfl, rfl, rfl, rfl, rfl, rfl, rfl, rfl, rfl, rfl, rfl, rfl, trivial⟩, (Among.of (Among.take 0 rfl rfl (Among.take 0 rfl rfl (Among.take 0 rfl rfl (Among.take 0 rfl rfl Among.none)))) _ hs)⟩
             ·intro q354
              replace q354 : ¬ (((s310.2 : Nat) : Int) < ((x290.length : Nat) : Int)) := of_decide_eq_false q354
              replace hm := iF hm q354
              refine St.exit ?_
              refine St.thenexit ?_
              refine St.thenexit ?_
              refine St.inexit ?_
              obtain rfl := sI hm
              obtain rfl := aR ho313
              intro a w ha hs
              exact ⟨A315, c316, cells318, h317, b319, ha.covers ⟨rfl, rfl, rfl, rfl, rfl, rfl, rfl, rfl, rfl, rfl, rfl, rfl, trivial⟩, (Among.of (Among.take 0 rfl rfl (Among.take 0 rfl rfl (Among.take 1 rfl rfl Among.none))) _ hs)⟩
           ·rintro a w ⟨A284, c285, cells287, h286, b288, ha, hs⟩
            replace hm := hk289
            refine St.use (?_ : St _ _ _ _ _ _) ha hs
            clear ha hs a w
            refine St.seq ?_
            refine St.seq ?_
            refine St.region ?_
            refine St.val (v := (.slice A284 z282.length c285)) (Yields.move rfl) trivial rfl rfl ?_
            refine St.val (v := (.int .i64 ((z282.length : Nat) : Int))) (Yields.lenSlice tu26 rfl) trivial rfl rfl ?_
            refine St.val (v := (.bool (decide (((z282.length : Nat) : Int) = 0)))) (Yields.eq rfl rfl) trivial rfl rfl ?_
            refine St.nil ?_
            refine St.norm ?_
            refine St.cond_b rfl ?_ ?_
            ·intro q355
             replace q355 : ((z282.length : Nat) : Int) = 0 := of_decide_eq_true q355
             replace hm := iT hm q355
             refine St.seq ?_
             refine St.region ?_
             refine St.val (v := (.slice none 0 0)) (Yields.assign rfl) trivial rfl rfl ?_
             refine St.val (v := (.bool false)) (Yields.assign rfl) trivial rfl rfl ?_
             refine St.nil ?_
             refine St.norm ?_
             refine St.ret ?_
             refine St.thenret ?_
             refine St.inret ?_
             refine St.thenret ?_
             refine St.thenret ?_
             refine St.inret ?_
             refine St.inret ?_
             refine St.thenret ?_
             refine St.thenret ?_
             refine St.inret ?_
             refine St.inret ?_
             refine St.thenret ?_
             refine St.inret ?_
             refine St.thenret ?_
             obtain rfl := sI hm
             obtain rfl := aR ho254
             obtain rfl := aR ho151
             obtain rfl := aR ho131
             obtain rfl := aR ho108
             obtain rfl := aR ho95
             exact St.doneR2 rfl rfl rfl ⟨none, 0, rfl, Fsl.nil, rfl⟩ (fun w hs => Among.of Among.none w hs)
            ·intro q356
             replace q356 : ¬ (((z282.length : Nat) : Int) = 0) := of_decide_eq_false q356
             replace hm := iF hm q356
             refine St.skip ?_
             refine St.norm ?_
             obtain ⟨z357, hm, hk358⟩ := bS hm
             refine St.cutI (fun a w => Has Try.f28.ntmps a [(1, .slice pA1 a1.length pc1), (6, .slice A256 s251.1.length c257), (9, .bool z357), (11, .pointer (some ⟨b171, 0, none⟩)), (14, .int .i64 x275), (15, .slice A284 z282.length c285), (38, .slice pA1 a1.length pc1), (39, .int .i64 ((a1.length : Nat) : Int)), (40, .int .i64 ((s128.2.2 : Nat) : Int)), (54, .slice A237 q233.length c238), (55, .int .i64 ((q233.length : Nat) : Int)), (56, .int .i64 ((s251.2.2 : Nat) : Int))] ∧ Sat ⟨w0, fun b => m0 b ≠ none, F⟩ F261 [blk b171 (.cells #[.int .i64 x152.Kind, .slice A159 x152.Vars.length c160, .slice A162 x152.A.length c163, .int .i64 x152.B, .slice A165 x152.Rows.length c166] 28 (0, 0)), rowo A256 s251.1.length c257 26 1 cells259, rowo A284 z282.length c285 3 1 cells287] w) ?_ ?_
             ·skip
              refine St.region ?_
              by_cases q359 : s251.2.1 = true
              ·replace hm := iT hm q359
               have hb360 : (s251.2.1) = true := q359
               try rw [hb360]
               refine St.val (v := (.bool true)) (Yields.move rfl) trivial rfl rfl ?_
               refine St.val (v := (.bool true)) (Yields.move rfl) trivial rfl rfl ?_
               refine St.unwanted rfl rfl rfl ?_
               refine St.unwanted rfl rfl rfl ?_
               refine St.unwanted rfl rfl rfl ?_
               refine St.unwanted rfl rfl rfl ?_
               refine St.unwanted rfl rfl rfl ?_
               refine St.unwanted rfl rfl rfl ?_
               refine St.unwanted rfl rfl rfl ?_
               refine St.unwanted rfl rfl rfl ?_
               refine St.val (v := (.bool true)) (Yields.pick_t rfl rfl) trivial rfl rfl ?_
               refine St.val (v := (.bool true)) (Yields.assign rfl) trivial rfl rfl ?_
               refine St.nil ?_
               obtain rfl := sI hm
               intro a w ha hs
               exact ⟨ha.covers ⟨rfl, rfl, rfl, rfl, rfl, rfl, rfl, rfl, rfl, rfl, rfl, rfl, trivial⟩, (Among.of (Among.take 0 rfl rfl (Among.take 0 rfl rfl (Among.take 0 rfl rfl Among.none))) _ hs)⟩
              ·replace hm := iF hm q359
               have hb361 : (s251.2.1) = false := eq_false_of_ne_true q359
               try rw [hb361]
               refine St.val (v := (.bool false)) (Yields.move rfl) trivial rfl rfl ?_
               refine St.val (v := (.bool false)) (Yields.move rfl) trivial rfl rfl ?_
               refine St.val (v := (.slice A284 z282.length c285)) (Yields.move rfl) rfl rfl rfl ?_
               refine St.val (v := (.int .i64 ((z282.length : Nat) : Int))) (Yields.lenSlice tu26 rfl) rfl rfl rfl ?_
               refine St.val (v := (.slice A256 s251.1.length c257)) (Yields.move rfl) rfl rfl rfl ?_
               refine St.val (v := (.int .i64 x275)) (Yields.move rfl) rfl rfl rfl ?_
               obtain ⟨x362, e363, hm⟩ := bS hm
               obtain ⟨jx364, jx365, cs366, R367, k368⟩ := h258.idx e363
               obtain ⟨A369, c370, rfl, h371⟩ := R367
               refine St.rowo_at 1 rfl (by omega) ?_
               intro hA373
               refine St.val (v := (.pointer (some ⟨bk A256, bo A256 + x275.toNat * 1, none⟩))) (Yields.idx (IdxAt.own hA373 jx364 jx365) ts22 rfl rfl) rfl rfl rfl ?_
               refine St.val (v := (.slice A369 x362.length c370)) (Yields.load rfl (Loads.rA1 1 rfl tc26 (k368 0 _ rfl))) rfl rfl rfl ?_
               refine St.val (v := (.int .i64 ((x362.length : Nat) : Int))) (Yields.lenSlice tu26 rfl) rfl rfl rfl ?_
               refine St.val (v := (.bool (decide (((z282.length : Nat) : Int) < ((x362.length : Nat) : Int))))) (Yields.lt rfl rfl) rfl rfl rfl ?_
               refine St.val (v := (.bool (decide (((z282.length : Nat) : Int) < ((x362.length : Nat) : Int))))) (Yields.pick_f rfl rfl) trivial rfl rfl ?_
               refine St.val (v := (.bool (decide (((z282.length : Nat) : Int) < ((x362.length : Nat) : Int))))) (Yields.assign rfl) trivial rfl rfl ?_
               refine St.nil ?_
               obtain rfl := sI hm
               intro a w ha hs
               exact ⟨ha.covers ⟨rfl, rfl, rfl, rfl, rfl, rfl, rfl, rfl, rfl, rfl, rfl, rfl, trivial⟩, (Among.of (Among.take 0 rfl rfl (Among.take 0 rfl rfl (Among.take 0 rfl rfl Among.none))) _ hs)⟩
             ·rintro a w ⟨ha, hs⟩
              replace hm := hk358
              refine St.use (?_ : St _ _ _ _ _ _) ha hs
              clear ha hs a w
              refine St.region ?_
              refine St.val (v := (.slice A256 s251.1.length c257)) (Yields.move rfl) trivial rfl rfl ?_
              refine St.val (v := (.int .i64 x275)) (Yields.move rfl) trivial rfl rfl ?_
              refine St.val (v := (.slice A284 z282.length c285)) (Yields.move rfl) trivial rfl rfl ?_
              obtain ⟨x374, e375, hm⟩ := bS hm
              obtain ⟨jx376, jx377, cs378, R379, k380⟩ := h258.idx e375
              obtain ⟨A381, c382, rfl, h383⟩ := R379
              refine St.rowo_at 1 rfl (by omega) ?_
              intro hA385
              refine St.val (v := (.pointer (some ⟨bk A256, bo A256 + x275.toNat * 1, none⟩))) (Yields.idx (IdxAt.own hA385 jx376 jx377) ts22 rfl rfl) trivial rfl rfl ?_
              refine St.frz 2 rfl rfl rfl h286 b288 ?_
              intro F386 l387 h388
              obtain ⟨x391, e392, hm⟩ := bS hm
              refine St.putK1 (R := [blk b171 (.cells #[.int .i64 x152.Kind, .slice A159 x152.Vars.length c160, .slice A162 x152.A.length c163, .int .i64 x152.B, .slice A165 x152.Rows.length c166] 28 (0, 0))]) e392 (Cat.mono l387 h258) (show ((Kind.sl 8 (Kind.int .i64))).R _ [.slice A284 z282.length c285] z282 from ⟨_, _, rfl, h388⟩) rfl rfl rfl 1 rfl rfl tc26 rfl trivial ?_
              intro cells390 h389
              try rw [upd_len e392]
              refine St.nil ?_
              refine St.innorm ?_
              refine St.norm ?_
              refine St.region ?_
              refine St.val (v := (.int .i64 ((s251.2.2 + 1 : Nat) : Int))) (Yields.addn (j := 1) rfl rfl rfl (by have q_0 := q263; have q_1 := h239.bnd.2; omega)) trivial rfl rfl ?_
              refine St.val (v := (.int .i64 ((s251.2.2 + 1 : Nat) : Int))) (Yields.move rfl) trivial rfl rfl ?_
              refine St.nil ?_
              refine St.norm ?_
              obtain rfl := sI hm
              intro a w ha hs
              exact ⟨(x391, z357, s251.2.2 + 1), aL ho254, A256, c257, cells390, F386, (PH.le_trans l262 l387), h389, (Bnd.of_upd b260 e392), ha.covers ⟨rfl, rfl, rfl, rfl, rfl, rfl, rfl, rfl, rfl, rfl, trivial⟩, (Among.of (Among.take 1 rfl rfl (Among.take 0 rfl rfl Among.none)) _ hs)⟩
          ·intro q393
           replace q393 : ¬ (((s251.2.2 : Nat) : Int) < ((q233.length : Nat) : Int)) := of_decide_eq_false q393
           replace hm := iF hm q393
           refine St.exit ?_
           refine St.thenexit ?_
           refine St.thenexit ?_
           refine St.inexit ?_
           refine St.innorm ?_
           obtain rfl := sI hm
           obtain rfl := aR ho254
           intro a w ha hs
           exact ⟨(s251.1, s251.2.1), rfl, A256, c257, cells259, F261, (PH.le_trans l236 l262), h258, b260, ha.covers ⟨rfl, rfl, rfl, rfl, rfl, rfl, trivial⟩, (Among.of (Among.take 1 rfl rfl Among.none) _ hs)⟩
       ·rintro a w ⟨z141, rfl, A145, c146, cells148, F142, l143, h147, b149, ha, hs⟩
        replace hm := aL ho151
        refine St.use (?_ : St _ _ _ _ _ _) ha hs
        clear ha hs a w
        refine St.region ?_
        refine St.val (v := (.int .i64 ((s128.2.2 + 1 : Nat) : Int))) (Yields.addn (j := 1) rfl rfl rfl (by have q_0 := q140; have q_1 := ph1.bnd.2; omega)) trivial rfl rfl ?_
        refine St.val (v := (.int .i64 ((s128.2.2 + 1 : Nat) : Int))) (Yields.move rfl) trivial rfl rfl ?_
        refine St.nil ?_
        refine St.norm ?_
        obtain rfl := sI hm
        intro a w ha hs
        exact ⟨(z141.1, z141.2, s128.2.2 + 1), aL ho131, A145, c146, cells148, F142, (PH.le_trans l139 l143), h147, b149, ha.covers ⟨rfl, rfl, rfl, rfl, rfl, rfl, trivial⟩, (Among.of (Among.take 0 rfl rfl Among.none) _ hs)⟩
      ·intro q394
       replace q394 : ¬ (((s128.2.2 : Nat) : Int) < ((a1.length : Nat) : Int)) := of_decide_eq_false q394
       replace hm := iF hm q394
       refine St.exit ?_
       refine St.thenexit ?_
       refine St.thenexit ?_
       refine St.inexit ?_
       refine St.innorm ?_
       refine St.norm ?_
       obtain rfl := sI hm
       obtain rfl := aR ho131
       intro a w ha hs
       exact ⟨(s128.1, s128.2.1), aL ho108, A133, c134, cells136, F138, (PH.le_trans l116 l139), h135, b137, ha.covers ⟨rfl, rfl, rfl, trivial⟩, (Among.of (Among.take 0 rfl rfl Among.none) _ hs)⟩
    ·intro q395
     replace q395 : ¬ (s105.2 = true) := bf q395
     replace hm := iF hm q395
     refine St.exit ?_
     refine St.thenexit ?_
     refine St.thenexit ?_
     refine St.inexit ?_
     obtain rfl := sI hm
     obtain rfl := aR ho108
     intro a w ha hs
     exact ⟨s105.1, rfl, A110, c111, cells113, F115, l116, h112, b114, ha.covers ⟨rfl, trivial⟩, (Among.of (Among.take 0 rfl rfl Among.none) _ hs)⟩
  ·rintro a w ⟨z85, rfl, A89, c90, cells92, F86, l87, h91, b93, ha, hs⟩
   replace hm := aL ho95
   refine St.use (?_ : St _ _ _ _ _ _) ha hs
   clear ha hs a w
   refine St.seq ?_
   refine St.region ?_
   refine St.val (v := (.slice A89 z85.length c90)) (Yields.move rfl) trivial rfl rfl ?_
   refine St.val (v := (.slice A89 z85.length c90)) (Yields.assign rfl) trivial rfl rfl ?_
   refine St.val (v := (.bool true)) (Yields.assign rfl) trivial rfl rfl ?_
   refine St.nil ?_
   refine St.norm ?_
   refine St.ret ?_
   refine St.frz 0 rfl rfl rfl h91 b93 ?_
   intro F396 l397 h398
   obtain rfl := sI hm
   exact St.doneR2 rfl rfl rfl ⟨A89, c90, rfl, h398, rfl⟩ (fun w hs => Among.of Among.none w hs)

theorem m_domain_Narrow_sp {F : PH} {g : Nat} {a0 : DProblem} {pA0_0 : Option Addr} {pc0_0 : Nat} {pA0_1 : Option Addr} {pc0_1 : Nat} (ph0_0 : Fsl 24 (Kind.sl 8 (Kind.int .i64)) F pA0_0 pc0_0 a0.Doms) (ph0_1 : Fsl 88 KDLimit F pA0_1 pc0_1 a0.Limits) {r : List (List Int) × Bool × Int} (hm : m_domain_Narrow g a0 = some r) :
  CallSp Try.prog 9 #[.agg #[.slice pA0_0 a0.Doms.length pc0_0, .slice pA0_1 a0.Limits.length pc0_1]] F [] (fun u F' H' => ∃ (B0 : Option Addr) (d0 : Nat), u = (.tuple #[.slice B0 r.1.length d0, .bool r.2.1, .int .i64 r.2.2]) ∧ Fsl 24 (Kind.sl 8 (Kind.int .i64)) F' B0 d0 r.1 ∧ H' = []) := by
 unfold m_domain_Narrow at hm
 refine CallSp.enter (args := [.agg #[.slice pA0_0 a0.Doms.length pc0_0, .slice pA0_1 a0.Limits.length pc0_1]]) Try.func9 rfl rfl ?_
 intro w0 m0 hm0
 refine St.seq ?_
 refine St.region ?_
 refine St.box rfl trivial rfl ?_
 intro b3
 refine St.val (v := (.slice none 0 0)) (Yields.assign rfl) trivial rfl rfl ?_
 refine St.val (v := (.bool false)) (Yields.assign rfl) trivial rfl rfl ?_
 refine St.val (v := (.int .i64 0)) (Yields.assign rfl) trivial rfl rfl ?_
 refine St.nil ?_
 refine St.norm ?_
 refine St.seq ?_
 refine St.seq ?_
 refine St.region ?_
 refine St.val (v := (.agg #[.slice pA0_0 a0.Doms.length pc0_0, .slice pA0_1 a0.Limits.length pc0_1])) (Yields.load rfl (Loads.Hk (vs := [.slice pA0_0 a0.Doms.length pc0_0, .slice pA0_1 a0.Limits.length pc0_1]) 0 rfl ta25 rfl rfl)) trivial rfl rfl ?_
 obtain ⟨q4, e5, hm⟩ := bS hm
 refine St.call [blk b3 (.cells #[.slice pA0_0 a0.Doms.length pc0_0, .slice pA0_1 a0.Limits.length pc0_1] 25 (0, 0))] (m_domain_Validate_sp (a0 := a0) ph0_0 ph0_1 e5) rfl (fun _ ha => ev1 ha rfl) rfl en6 rfl rfl trivial ?_
 rintro _ F6 _ ⟨rfl, rfl⟩ l7
 refine St.val (v := (.int .i64 q4)) (Yields.assign rfl) trivial rfl rfl ?_
 refine St.nil ?_
 refine St.norm ?_
 refine St.seq ?_
 refine St.region ?_
 refine St.val (v := (.int .i64 q4)) (Yields.move rfl) trivial rfl rfl ?_
 refine St.val (v := (.bool (!decide (q4 = 0)))) (Yields.ne rfl rfl) trivial rfl rfl ?_
 refine St.nil ?_
 refine St.norm ?_
 refine St.cond_b rfl ?_ ?_
 ·intro q8
  replace q8 : ¬ (q4 = 0) := nd_t q8
  replace hm := iF hm q8
  refine St.seq ?_
  refine St.region ?_
  refine St.val (v := (.int .i64 q4)) (Yields.move rfl) trivial rfl rfl ?_
  refine St.val (v := (.slice none 0 0)) (Yields.assign rfl) trivial rfl rfl ?_
  refine St.val (v := (.bool false)) (Yields.assign rfl) trivial rfl rfl ?_
  refine St.val (v := (.int .i64 q4)) (Yields.assign rfl) trivial rfl rfl ?_
  refine St.nil ?_
  refine St.norm ?_
  refine St.ret ?_
  refine St.thenret ?_
  obtain rfl := sI hm
  exact St.doneR3 rfl rfl rfl rfl ⟨none, 0, rfl, Fsl.nil, rfl⟩ (fun w hs => Among.of Among.none w hs)
 ·intro q9
  replace q9 : q4 = 0 := nd_f q9
  replace hm := iT hm q9
  refine St.skip ?_
  refine St.norm ?_
  refine St.seq ?_
  refine St.seq ?_
  refine St.region ?_
  refine St.val (v := (.agg #[.slice pA0_0 a0.Doms.length pc0_0, .slice pA0_1 a0.Limits.length pc0_1])) (Yields.load rfl (Loads.Hk (vs := [.slice pA0_0 a0.Doms.length pc0_0, .slice pA0_1 a0.Limits.length pc0_1]) 0 rfl ta25 rfl rfl)) trivial rfl rfl ?_
  obtain ⟨q10, e11, hm⟩ := bS hm
  refine St.call [blk b3 (.cells #[.slice pA0_0 a0.Doms.length pc0_0, .slice pA0_1 a0.Limits.length pc0_1] 25 (0, 0))] (m_domain_isCostly_sp (a0 := a0) (Fsl.mono l7 ph0_0) (Fsl.mono l7 ph0_1) e11) rfl (fun _ ha => ev1 ha rfl) rfl en27 rfl rfl trivial ?_
  rintro _ F12 _ ⟨rfl, rfl⟩ l13
  refine St.nil ?_
  refine St.norm ?_
  refine St.cond_b rfl ?_ ?_
  ·intro q14
   replace q14 : q10 = true := q14
   replace hm := iT hm q14
   refine St.seq ?_
   refine St.region ?_
   refine St.val (v := (.slice none 0 0)) (Yields.assign rfl) trivial rfl rfl ?_
   refine St.val (v := (.bool false)) (Yields.assign rfl) trivial rfl rfl ?_
   refine St.val (v := (.int .i64 3)) (Yields.assign rfl) trivial rfl rfl ?_
   refine St.nil ?_
   refine St.norm ?_
   refine St.ret ?_
   refine St.thenret ?_
   obtain rfl := sI hm
   exact St.doneR3 rfl rfl rfl rfl ⟨none, 0, rfl, Fsl.nil, rfl⟩ (fun w hs => Among.of Among.none w hs)
  ·intro q15
   replace q15 : ¬ (q10 = true) := bf q15
   replace hm := iF hm q15
   refine St.skip ?_
   refine St.norm ?_
   refine St.seq ?_
   refine St.region ?_
   refine St.val (v := (.pointer (some ⟨b3, 0, none⟩))) (Yields.fieldAddr (v := (.pointer (some ⟨b3, 0, none⟩))) rfl (fun _ => by kernel_rfl)) trivial rfl rfl ?_
   refine St.val (v := (.slice pA0_0 a0.Doms.length pc0_0)) (Yields.load rfl (Loads.H1 0 rfl tc22 rfl)) trivial rfl rfl ?_
   refine St.val (v := (.pointer (some ⟨b3, 1, none⟩))) (Yields.fieldAddr (v := (.pointer (some ⟨b3, 1, none⟩))) rfl (fun _ => by kernel_rfl)) trivial rfl rfl ?_
   refine St.val (v := (.slice pA0_1 a0.Limits.length pc0_1)) (Yields.load rfl (Loads.H1 0 rfl tc23 rfl)) trivial rfl rfl ?_
   obtain ⟨q16, e17, hm⟩ := bS hm
   refine St.call [blk b3 (.cells #[.slice pA0_0 a0.Doms.length pc0_0, .slice pA0_1 a0.Limits.length pc0_1] 25 (0, 0))] (m_domain_narrow_sp (Fsl.mono (PH.le_trans l7 l13) ph0_0) (Fsl.mono (PH.le_trans l7 l13) ph0_1) e17) rfl (fun _ ha => ev2 ha rfl rfl) rfl en28 rfl rfl trivial ?_
   rintro _ F18 _ ⟨A20, c21, rfl, h22, rfl⟩ l19
   refine St.val (v := (.tuple #[.slice A20 q16.1.length c21, .bool q16.2])) (Yields.move rfl) trivial rfl rfl ?_
   refine St.val (v := (.slice A20 q16.1.length c21)) (Yields.extract rfl rfl) trivial rfl rfl ?_
   refine St.val (v := (.bool q16.2)) (Yields.extract rfl rfl) trivial rfl rfl ?_
   refine St.val (v := (.slice A20 q16.1.length c21)) (Yields.assign rfl) trivial rfl rfl ?_
   refine St.val (v := (.bool q16.2)) (Yields.assign rfl) trivial rfl rfl ?_
   refine St.nil ?_
   refine St.norm ?_
   refine St.seq ?_
   refine St.region ?_
   refine St.val (v := (.slice A20 q16.1.length c21)) (Yields.move rfl) trivial rfl rfl ?_
   refine St.val (v := (.bool q16.2)) (Yields.move rfl) trivial rfl rfl ?_
   refine St.val (v := (.slice A20 q16.1.length c21)) (Yields.assign rfl) trivial rfl rfl ?_
   refine St.val (v := (.bool q16.2)) (Yields.assign rfl) trivial rfl rfl ?_
   refine St.val (v := (.int .i64 0)) (Yields.assign rfl) trivial rfl rfl ?_
   refine St.nil ?_
   refine St.norm ?_
   refine St.ret ?_
   obtain rfl := sI hm
   exact St.doneR3 rfl rfl rfl rfl ⟨A20, c21, rfl, h22, rfl⟩ (fun w hs => Among.of Among.none w hs)

theorem m_ref01_SameInts_sp {F : PH} {g : Nat} {a0 : List Int} {a1 : List Int} {pA0 : Option Addr} {pc0 : Nat} {pA1 : Option Addr} {pc1 : Nat} (ph0 : Fsl 8 (Kind.int .i64) F pA0 pc0 a0) (ph1 : Fsl 8 (Kind.int .i64) F pA1 pc1 a1) {r : Bool} (hm : m_ref01_SameInts g a0 a1 = some r) :
  CallSp Try.prog 29 #[.slice pA0 a0.length pc0, .slice pA1 a1.length pc1] F [] (fun u F' H' => u = (.bool r) ∧ H' = []) := by
 unfold m_ref01_SameInts at hm
 refine CallSp.enter (args := [.slice pA0 a0.length pc0, .slice pA1 a1.length pc1]) Try.func29 rfl rfl ?_
 intro w0 m0 hm0
 refine St.seq ?_
 refine St.region ?_
 refine St.val (v := (.bool false)) (Yields.assign rfl) trivial rfl rfl ?_
 refine St.nil ?_
 refine St.norm ?_
 refine St.seq ?_
 refine St.seq ?_
 refine St.region ?_
 refine St.val (v := (.slice pA0 a0.length pc0)) (Yields.move rfl) trivial rfl rfl ?_
 refine St.val (v := (.int .i64 ((a0.length : Nat) : Int))) (Yields.lenSlice tu26 rfl) trivial rfl rfl ?_
 refine St.val (v := (.slice pA1 a1.length pc1)) (Yields.move rfl) trivial rfl rfl ?_
 refine St.val (v := (.int .i64 ((a1.length : Nat) : Int))) (Yields.lenSlice tu26 rfl) trivial rfl rfl ?_
 refine St.val (v := (.bool (!decide (((a0.length : Nat) : Int) = ((a1.length : Nat) : Int))))) (Yields.ne rfl rfl) trivial rfl rfl ?_
 refine St.nil ?_
 refine St.norm ?_
 refine St.cond_b rfl ?_ ?_
 ·intro q3
  replace q3 : ¬ (((a0.length : Nat) : Int) = ((a1.length : Nat) : Int)) := nd_t q3
  replace hm := iF hm q3
  refine St.seq ?_
  refine St.region ?_
  refine St.val (v := (.bool false)) (Yields.assign rfl) trivial rfl rfl ?_
  refine St.nil ?_
  refine St.norm ?_
  refine St.ret ?_
  refine St.thenret ?_
  obtain rfl := sI hm
  exact St.doneR1 rfl rfl ⟨rfl, rfl⟩ (fun w hs => Among.of Among.none w hs)
 ·intro q4
  replace q4 : ((a0.length : Nat) : Int) = ((a1.length : Nat) : Int) := nd_f q4
  replace hm := iT hm q4
  refine St.skip ?_
  refine St.norm ?_
  obtain ⟨o6, hm, ho7⟩ := jS hm
  refine St.cutI (fun a w => ∃ z5 : Unit, o6 = .inl z5 ∧ Has Try.f29.ntmps a [] ∧ Sat ⟨w0, fun b => m0 b ≠ none, F⟩ F [] w) ?_ ?_
  ·skip
   refine St.seq ?_
   refine St.region ?_
   refine St.val (v := (.int .i64 0)) (Yields.assign rfl) trivial rfl rfl ?_
   refine St.nil ?_
   refine St.norm ?_
   refine St.block ?_
   refine St.loopM hm (fun s9 a w => Has Try.f29.ntmps a [(0, .slice pA0 a0.length pc0), (1, .slice pA1 a1.length pc1), (5, .int .i64 ((s9 : Nat) : Int))] ∧ Sat ⟨w0, fun b => m0 b ≠ none, F⟩ F [] w) ?_ ?_
   ·skip
    intro a w ha hs
    exact ⟨ha.covers ⟨rfl, rfl, rfl, trivial⟩, (Among.of Among.none _ hs)⟩
   ·rintro s9 o10 co11 hm ho12 a w ⟨ha, hs⟩
    refine St.use (?_ : St _ _ _ _ _ _) ha hs
    clear ha hs a w
    refine St.seq ?_
    refine St.seq ?_
    refine St.region ?_
    refine St.val (v := (.int .i64 ((s9 : Nat) : Int))) (Yields.move rfl) trivial rfl rfl ?_
    refine St.val (v := (.slice pA0 a0.length pc0)) (Yields.move rfl) trivial rfl rfl ?_
    refine St.val (v := (.int .i64 ((a0.length : Nat) : Int))) (Yields.lenSlice tu26 rfl) trivial rfl rfl ?_
    refine St.val (v := (.bool (decide (((s9 : Nat) : Int) < ((a0.length : Nat) : Int))))) (Yields.lt rfl rfl) trivial rfl rfl ?_
    refine St.nil ?_
    refine St.norm ?_
    refine St.cond_b rfl ?_ ?_
    ·intro q13
     replace q13 : ((s9 : Nat) : Int) < ((a0.length : Nat) : Int) := of_decide_eq_true q13
     replace hm := iT hm q13
     refine St.skip ?_
     refine St.norm ?_
     refine St.seq ?_
     refine St.block ?_
     refine St.seq ?_
     refine StD.start [] [] hmix ?_
     refine StD.takeP (i := 0) (v := (.slice pA0 a0.length pc0)) rfl (fun _ => Yields.move rfl) rfl rfl trivial (by rintro _ _ _ ⟨_, _, _, _, h, _⟩; cases h) (by kernel_rfl) (listed' := #[true, false, false, false, false, false, false, false, false]) rfl ?_
     refine StD.takeP (i := 1) (v := (.int .i64 ((s9 : Nat) : Int))) rfl (fun _ => Yields.move rfl) rfl rfl trivial (by rintro _ _ _ ⟨_, _, _, _, h, _⟩; cases h) (by kernel_rfl) (listed' := #[true, true, false, false, false, false, false, false, false]) rfl ?_
     obtain ⟨x14, e15, hm⟩ := bS hm
     obtain ⟨p16, cs17, jx18, R19, k20⟩ := ph0.nidx e15
     obtain rfl := R19
     refine StD.takeP (i := 2) (v := (.pointer (some p16))) rfl (fun _ => Yields.idx jx18 ts26 rfl rfl) rfl rfl trivial (by rintro _ _ _ ⟨_, _, _, _, h, _⟩; cases h) (by kernel_rfl) (listed' := #[true, true, true, false, false, false, false, false, false]) rfl ?_
     refine StD.take [0, 1, 2, 4, 5, 6, 8] (i := 3) (v := (.int .i64 x14)) rfl (Yields.load rfl (Loads.Fat k20 tc3 rfl)) rfl rfl trivial Among.refl (by rintro _ _ _ ⟨_, _, _, _, h, _⟩; cases h) (by kernel_rfl) (listed' := #[true, true, true, true, false, false, false, false, false]) rfl ?_
     refine StD.takeP (i := 4) (v := (.slice pA1 a1.length pc1)) rfl (fun _ => Yields.move rfl) rfl rfl trivial (by rintro _ _ _ ⟨_, _, _, _, h, _⟩; cases h) (by kernel_rfl) (listed' := #[true, true, true, true, true, false, false, false, false]) rfl ?_
     refine StD.takeP (i := 5) (v := (.int .i64 ((s9 : Nat) : Int))) rfl (fun _ => Yields.move rfl) rfl rfl trivial (by rintro _ _ _ ⟨_, _, _, _, h, _⟩; cases h) (by kernel_rfl) (listed' := #[true, true, true, true, true, true, false, false, false]) rfl ?_
     obtain ⟨x21, e22, hm⟩ := bS hm
     obtain ⟨p23, cs24, jx25, R26, k27⟩ := ph1.nidx e22
     obtain rfl := R26
     refine StD.takeP (i := 6) (v := (.pointer (some p23))) rfl (fun _ => Yields.idx jx25 ts26 rfl rfl) rfl rfl trivial (by rintro _ _ _ ⟨_, _, _, _, h, _⟩; cases h) (by kernel_rfl) (listed' := #[true, true, true, true, true, true, true, false, false]) rfl ?_
     refine StD.take [0, 1, 2, 4, 5, 6, 8] (i := 7) (v := (.int .i64 x21)) rfl (Yields.load rfl (Loads.Fat k27 tc3 rfl)) rfl rfl trivial Among.refl (by rintro _ _ _ ⟨_, _, _, _, h, _⟩; cases h) (by kernel_rfl) (listed' := #[true, true, true, true, true, true, true, true, false]) rfl ?_
     refine StD.takeP (i := 8) (v := (.bool (!decide (x14 = x21)))) rfl (fun _ => Yields.ne rfl rfl) rfl rfl trivial (by rintro _ _ _ ⟨_, _, _, _, h, _⟩; cases h) (by kernel_rfl) (listed' := #[true, true, true, true, true, true, true, true, true]) rfl ?_
     refine StD.done (by kernel_rfl) ?_
     refine St.norm ?_
     refine St.cond_b rfl ?_ ?_
     ·intro q28
      replace q28 : ¬ (x14 = x21) := nd_t q28
      replace hm := iF hm q28
      refine St.seq ?_
      refine St.region ?_
      refine St.val (v := (.bool false)) (Yields.assign rfl) trivial rfl rfl ?_
      refine St.nil ?_
      refine St.norm ?_
      refine St.ret ?_
      refine St.inret ?_
      refine St.thenret ?_
      refine St.thenret ?_
      refine St.inret ?_
      refine St.thenret ?_
      obtain rfl := sI hm
      obtain rfl := aR ho12
      obtain rfl := aR ho7
      exact St.doneR1 rfl rfl ⟨rfl, rfl⟩ (fun w hs => Among.of Among.none w hs)
     ·intro q29
      replace q29 : x14 = x21 := nd_f q29
      replace hm := iT hm q29
      refine St.skip ?_
      refine St.innorm ?_
      refine St.norm ?_
      refine St.region ?_
      refine St.val (v := (.int .i64 ((s9 : Nat) : Int))) (Yields.move rfl) trivial rfl rfl ?_
      refine St.val (v := (.int .i64 ((s9 + 1 : Nat) : Int))) (Yields.addn (j := 1) rfl rfl rfl (by have q_0 := q13; have q_1 := ph0.bnd.2; omega)) trivial rfl rfl ?_
      refine St.val (v := (.int .i64 ((s9 + 1 : Nat) : Int))) (Yields.assign rfl) trivial rfl rfl ?_
      refine St.nil ?_
      refine St.norm ?_
      obtain rfl := sI hm
      intro a w ha hs
      exact ⟨s9 + 1, aL ho12, ha.covers ⟨rfl, rfl, rfl, trivial⟩, (Among.of Among.none _ hs)⟩
    ·intro q30
     replace q30 : ¬ (((s9 : Nat) : Int) < ((a0.length : Nat) : Int)) := of_decide_eq_false q30
     replace hm := iF hm q30
     refine St.exit ?_
     refine St.thenexit ?_
     refine St.thenexit ?_
     refine St.inexit ?_
     obtain rfl := sI hm
     obtain rfl := aR ho12
     intro a w ha hs
     exact ⟨(), rfl, ha.covers trivial, (Among.of Among.none _ hs)⟩
  ·rintro a w ⟨z5, rfl, ha, hs⟩
   replace hm := aL ho7
   refine St.use (?_ : St _ _ _ _ _ _) ha hs
   clear ha hs a w
   refine St.seq ?_
   refine St.region ?_
   refine St.val (v := (.bool true)) (Yields.assign rfl) trivial rfl rfl ?_
   refine St.nil ?_
   refine St.norm ?_
   refine St.ret ?_
   obtain rfl := sI hm
   exact St.doneR1 rfl rfl ⟨rfl, rfl⟩ (fun w hs => Among.of Among.none w hs)

theorem m_ref01_SameRows_sp {F : PH} {g : Nat} {a0 : List (List Int)} {a1 : List (List Int)} {pA0 : Option Addr} {pc0 : Nat} {pA1 : Option Addr} {pc1 : Nat} (ph0 : Fsl 24 (Kind.sl 8 (Kind.int .i64)) F pA0 pc0 a0) (ph1 : Fsl 24 (Kind.sl 8 (Kind.int .i64)) F pA1 pc1 a1) {r : Bool} (hm : m_ref01_SameRows g a0 a1 = some r) :
  CallSp Try.prog 10 #[.slice pA0 a0.length pc0, .slice pA1 a1.length pc1] F [] (fun u F' H' => u = (.bool r) ∧ H' = []) := by
 unfold m_ref01_SameRows at hm
 refine CallSp.enter (args := [.slice pA0 a0.length pc0, .slice pA1 a1.length pc1]) Try.func10 rfl rfl ?_
 intro w0 m0 hm0
 refine St.seq ?_
 refine St.region ?_
 refine St.val (v := (.bool false)) (Yields.assign rfl) trivial rfl rfl ?_
 refine St.nil ?_
 refine St.norm ?_
 refine St.seq ?_
 refine St.seq ?_
 refine St.region ?_
 refine St.val (v := (.slice pA0 a0.length pc0)) (Yields.move rfl) trivial rfl rfl ?_
 refine St.val (v := (.int .i64 ((a0.length : Nat) : Int))) (Yields.lenSlice tu22 rfl) trivial rfl rfl ?_
 refine St.val (v := (.slice pA1 a1.length pc1)) (Yields.move rfl) trivial rfl rfl ?_
 refine St.val (v := (.int .i64 ((a1.length : Nat) : Int))) (Yields.lenSlice tu22 rfl) trivial rfl rfl ?_
 refine St.val (v := (.bool (!decide (((a0.length : Nat) : Int) = ((a1.length : Nat) : Int))))) (Yields.ne rfl rfl) trivial rfl rfl ?_
 refine St.nil ?_
 refine St.norm ?_
 refine St.cond_b rfl ?_ ?_
 ·intro q3
  replace q3 : ¬ (((a0.length : Nat) : Int) = ((a1.length : Nat) : Int)) := nd_t q3
  replace hm := iF hm q3
  refine St.seq ?_
  refine St.region ?_
  refine St.val (v := (.bool false)) (Yields.assign rfl) trivial rfl rfl ?_
  refine St.nil ?_
  refine St.norm ?_
  refine St.ret ?_
  refine St.thenret ?_
  obtain rfl := sI hm
  exact St.doneR1 rfl rfl ⟨rfl, rfl⟩ (fun w hs => Among.of Among.none w hs)
 ·intro q4
  replace q4 : ((a0.length : Nat) : Int) = ((a1.length : Nat) : Int) := nd_f q4
  replace hm := iT hm q4
  refine St.skip ?_
  refine St.norm ?_
  obtain ⟨o8, hm, ho9⟩ := jS hm
  refine St.cutI (fun a w => ∃ z5 : Unit, o8 = .inl z5 ∧ ∃ (F6 : PH), PH.le F F6 ∧ Has Try.f10.ntmps a [] ∧ Sat ⟨w0, fun b => m0 b ≠ none, F⟩ F6 [] w) ?_ ?_
  ·skip
   refine St.seq ?_
   refine St.region ?_
   refine St.val (v := (.int .i64 0)) (Yields.assign rfl) trivial rfl rfl ?_
   refine St.nil ?_
   refine St.norm ?_
   refine St.block ?_
   refine St.loopM hm (fun s12 a w => ∃ (F16 : PH), PH.le F F16 ∧ Has Try.f10.ntmps a [(0, .slice pA0 a0.length pc0), (1, .slice pA1 a1.length pc1), (5, .int .i64 ((s12 : Nat) : Int))] ∧ Sat ⟨w0, fun b => m0 b ≠ none, F⟩ F16 [] w) ?_ ?_
   ·skip
    intro a w ha hs
    exact ⟨F, (PH.le_refl _), ha.covers ⟨rfl, rfl, rfl, trivial⟩, (Among.of Among.none _ hs)⟩
   ·rintro s12 o13 co14 hm ho15 a w ⟨F16, l17, ha, hs⟩
    refine St.use (?_ : St _ _ _ _ _ _) ha hs
    clear ha hs a w
    refine St.seq ?_
    refine St.seq ?_
    refine St.region ?_
    refine St.val (v := (.int .i64 ((s12 : Nat) : Int))) (Yields.move rfl) trivial rfl rfl ?_
    refine St.val (v := (.slice pA0 a0.length pc0)) (Yields.move rfl) trivial rfl rfl ?_
    refine St.val (v := (.int .i64 ((a0.length : Nat) : Int))) (Yields.lenSlice tu22 rfl) trivial rfl rfl ?_
    refine St.val (v := (.bool (decide (((s12 : Nat) : Int) < ((a0.length : Nat) : Int))))) (Yields.lt rfl rfl) trivial rfl rfl ?_
    refine St.nil ?_
    refine St.norm ?_
    refine St.cond_b rfl ?_ ?_
    ·intro q18
     replace q18 : ((s12 : Nat) : Int) < ((a0.length : Nat) : Int) := of_decide_eq_true q18
     replace hm := iT hm q18
     refine St.skip ?_
     refine St.norm ?_
     refine St.seq ?_
     refine St.block ?_
     refine St.seq ?_
     refine StD.start [8] [] hmix ?_
     refine StD.takeP (i := 0) (v := (.slice pA0 a0.length pc0)) rfl (fun _ => Yields.move rfl) rfl rfl trivial (by rintro _ _ _ ⟨_, _, _, _, h, _⟩; cases h) (by kernel_rfl) (listed' := #[true, false, false, false, false, false, false, false, false, false]) rfl ?_
     refine StD.takeP (i := 1) (v := (.int .i64 ((s12 : Nat) : Int))) rfl (fun _ => Yields.move rfl) rfl rfl trivial (by rintro _ _ _ ⟨_, _, _, _, h, _⟩; cases h) (by kernel_rfl) (listed' := #[true, true, false, false, false, false, false, false, false, false]) rfl ?_
     obtain ⟨x19, e20, hm⟩ := bS hm
     obtain ⟨p21, cs22, jx23, R24, k25⟩ := (Fsl.mono l17 ph0).nidx e20
     obtain ⟨A26, c27, rfl, h28⟩ := R24
     refine StD.takeP (i := 2) (v := (.pointer (some p21))) rfl (fun _ => Yields.idx jx23 ts22 rfl rfl) rfl rfl trivial (by rintro _ _ _ ⟨_, _, _, _, h, _⟩; cases h) (by kernel_rfl) (listed' := #[true, true, true, false, false, false, false, false, false, false]) rfl ?_
     refine StD.take [0, 1, 2, 4, 5, 6, 9] (i := 3) (v := (.slice A26 x19.length c27)) rfl (Yields.load rfl (Loads.Fat k25 tc26 rfl)) rfl rfl trivial Among.refl (by rintro _ _ _ ⟨_, _, _, _, h, _⟩; cases h) (by kernel_rfl) (listed' := #[true, true, true, true, false, false, false, false, false, false]) rfl ?_
     refine StD.takeP (i := 4) (v := (.slice pA1 a1.length pc1)) rfl (fun _ => Yields.move rfl) rfl rfl trivial (by rintro _ _ _ ⟨_, _, _, _, h, _⟩; cases h) (by kernel_rfl) (listed' := #[true, true, true, true, true, false, false, false, false, false]) rfl ?_
     refine StD.takeP (i := 5) (v := (.int .i64 ((s12 : Nat) : Int))) rfl (fun _ => Yields.move rfl) rfl rfl trivial (by rintro _ _ _ ⟨_, _, _, _, h, _⟩; cases h) (by kernel_rfl) (listed' := #[true, true, true, true, true, true, false, false, false, false]) rfl ?_
     obtain ⟨x30, e31, hm⟩ := bS hm
     obtain ⟨p32, cs33, jx34, R35, k36⟩ := (Fsl.mono l17 ph1).nidx e31
     obtain ⟨A37, c38, rfl, h39⟩ := R35
     refine StD.takeP (i := 6) (v := (.pointer (some p32))) rfl (fun _ => Yields.idx jx34 ts22 rfl rfl) rfl rfl trivial (by rintro _ _ _ ⟨_, _, _, _, h, _⟩; cases h) (by kernel_rfl) (listed' := #[true, true, true, true, true, true, true, false, false, false]) rfl ?_
     refine StD.take [0, 1, 2, 4, 5, 6, 9] (i := 7) (v := (.slice A37 x30.length c38)) rfl (Yields.load rfl (Loads.Fat k36 tc26 rfl)) rfl rfl trivial Among.refl (by rintro _ _ _ ⟨_, _, _, _, h, _⟩; cases h) (by kernel_rfl) (listed' := #[true, true, true, true, true, true, true, true, false, false]) rfl ?_
     refine StD.only (i := 8) rfl (by kernel_rfl) (listed' := #[true, true, true, true, true, true, true, true, true, false]) rfl ?_
     intro hcl41
     obtain ⟨q42, e43, hm⟩ := bS hm
     refine St.call [] (m_ref01_SameInts_sp h28 h39 e43) rfl (fun _ ha => ev2 ha rfl rfl) rfl en29 rfl rfl trivial ?_
     rintro _ F44 _ ⟨rfl, rfl⟩ l45
     refine StD.next hcl41 (fun h => by cases h) ?_
     refine StD.takeP (i := 9) (v := (.bool (!q42))) rfl (fun _ => Yields.not rfl) rfl rfl trivial (by rintro _ _ _ ⟨_, _, _, _, h, _⟩; cases h) (by kernel_rfl) (listed' := #[true, true, true, true, true, true, true, true, true, true]) rfl ?_
     refine StD.done (by kernel_rfl) ?_
     refine St.norm ?_
     refine St.cond_b rfl ?_ ?_
     ·intro q46
      replace q46 : ¬ (q42 = true) := nb_t q46
      replace hm := iF hm q46
      refine St.seq ?_
      refine St.region ?_
      refine St.val (v := (.bool false)) (Yields.assign rfl) trivial rfl rfl ?_
      refine St.nil ?_
      refine St.norm ?_
      refine St.ret ?_
      refine St.inret ?_
      refine St.thenret ?_
      refine St.thenret ?_
      refine St.inret ?_
      refine St.thenret ?_
      obtain rfl := sI hm
      obtain rfl := aR ho15
      obtain rfl := aR ho9
      exact St.doneR1 rfl rfl ⟨rfl, rfl⟩ (fun w hs => Among.of Among.none w hs)
     ·intro q47
      replace q47 : q42 = true := nb_f q47
      replace hm := iT hm q47
      refine St.skip ?_
      refine St.innorm ?_
      refine St.norm ?_
      refine St.region ?_
      refine St.val (v := (.int .i64 ((s12 : Nat) : Int))) (Yields.move rfl) trivial rfl rfl ?_
      refine St.val (v := (.int .i64 ((s12 + 1 : Nat) : Int))) (Yields.addn (j := 1) rfl rfl rfl (by have q_0 := q18; have q_1 := ph0.bnd.2; omega)) trivial rfl rfl ?_
      refine St.val (v := (.int .i64 ((s12 + 1 : Nat) : Int))) (Yields.assign rfl) trivial rfl rfl ?_
      refine St.nil ?_
      refine St.norm ?_
      obtain rfl := sI hm
      intro a w ha hs
      exact ⟨s12 + 1, aL ho15, F44, (PH.le_trans l17 l45), ha.covers ⟨rfl, rfl, rfl, trivial⟩, (Among.of Among.none _ hs)⟩
    ·intro q48
     replace q48 : ¬ (((s12 : Nat) : Int) < ((a0.length : Nat) : Int)) := of_decide_eq_false q48
     replace hm := iF hm q48
     refine St.exit ?_
     refine St.thenexit ?_
     refine St.thenexit ?_
     refine St.inexit ?_
     obtain rfl := sI hm
     obtain rfl := aR ho15
     intro a w ha hs
     exact ⟨(), rfl, F16, l17, ha.covers trivial, (Among.of Among.none _ hs)⟩
  ·rintro a w ⟨z5, rfl, F6, l7, ha, hs⟩
   replace hm := aL ho9
   refine St.use (?_ : St _ _ _ _ _ _) ha hs
   clear ha hs a w
   refine St.seq ?_
   refine St.region ?_
   refine St.val (v := (.bool true)) (Yields.assign rfl) trivial rfl rfl ?_
   refine St.nil ?_
   refine St.norm ?_
   refine St.ret ?_
   obtain rfl := sI hm
   exact St.doneR1 rfl rfl ⟨rfl, rfl⟩ (fun w hs => Among.of Among.none w hs)

theorem m_law11_known_sp {F : PH} {g : Nat} {r : Bool} (hm : m_law11_known g = some r) :
  CallSp Try.prog 8 #[] F [] (fun u F' H' => u = (.bool r) ∧ H' = []) := by
 unfold m_law11_known at hm
 refine CallSp.enter (args := []) Try.func8 rfl rfl ?_
 intro w0 m0 hm0
 refine St.seq ?_
 refine St.region ?_
 refine St.val (v := (.bool false)) (Yields.assign rfl) trivial rfl rfl ?_
 refine St.nil ?_
 refine St.norm ?_
 refine St.seq ?_
 refine St.region ?_
 refine St.buildSlice (e := 3) (cells := #[.int .i64 1, .int .i64 2, .int .i64 3]) (vs := #[(0, .int .i64 1), (1, .int .i64 2), (2, .int .i64 3)]) (fun a _ => by simp only [List.map_toArray, List.map_cons, List.map_nil, Act.eval] <;> rfl) (fun _ => by kernel_rfl) rfl trivial ?_
 intro b1
 refine St.weak (R := []) (c' := rowo (some ⟨b1, 0, none⟩) ([1, 2, 3] : List Int).length 3 3 1 [.int .i64 1, .int .i64 2, .int .i64 3]) 0 rfl rfl (fun m hm => rowo_of_row (row_of_blk (k := 3) rfl (by decide) hm)) ?_
 refine St.buildSlice (e := 3) (cells := #[.int .i64 1, .int .i64 2, .int .i64 3]) (vs := #[(0, .int .i64 1), (1, .int .i64 2), (2, .int .i64 3)]) (fun a _ => by simp only [List.map_toArray, List.map_cons, List.map_nil, Act.eval] <;> rfl) (fun _ => by kernel_rfl) rfl trivial ?_
 intro b3
 refine St.weak (R := [rowo (some ⟨b1, 0, none⟩) ([1, 2, 3] : List Int).length 3 3 1 [.int .i64 1, .int .i64 2, .int .i64 3]]) (c' := rowo (some ⟨b3, 0, none⟩) ([1, 2, 3] : List Int).length 3 3 1 [.int .i64 1, .int .i64 2, .int .i64 3]) 0 rfl rfl (fun m hm => rowo_of_row (row_of_blk (k := 3) rfl (by decide) hm)) ?_
 refine St.frz 1 rfl rfl rfl (show Cat (Kind.int .i64) F [.int .i64 1, .int .i64 2, .int .i64 3] ([1, 2, 3] : List Int) from ⟨[.int .i64 1], _, rfl, rfl, ⟨[.int .i64 2], _, rfl, rfl, ⟨[.int .i64 3], _, rfl, rfl, rfl⟩⟩⟩) (show Bnd 8 ([1, 2, 3] : List Int) from ⟨by simp, by simp⟩) ?_
 intro F5 l6 h7
 refine St.frz 0 rfl rfl rfl (Cat.mono l6 (show Cat (Kind.int .i64) F [.int .i64 1, .int .i64 2, .int .i64 3] ([1, 2, 3] : List Int) from ⟨[.int .i64 1], _, rfl, rfl, ⟨[.int .i64 2], _, rfl, rfl, ⟨[.int .i64 3], _, rfl, rfl, rfl⟩⟩⟩)) (show Bnd 8 ([1, 2, 3] : List Int) from ⟨by simp, by simp⟩) ?_
 intro F8 l9 h10
 refine St.buildSlice (e := 26) (cells := #[.slice (some ⟨b1, 0, none⟩) ([1, 2, 3] : List Int).length 3, .slice (some ⟨b3, 0, none⟩) ([1, 2, 3] : List Int).length 3]) (vs := #[(0, .slice (some ⟨b1, 0, none⟩) ([1, 2, 3] : List Int).length 3), (1, .slice (some ⟨b3, 0, none⟩) ([1, 2, 3] : List Int).length 3)]) (fun _ ha => evp2 ha rfl rfl) (fun _ => by kernel_rfl) rfl trivial ?_
 intro b11
 refine St.weak (R := []) (c' := rowo (some ⟨b11, 0, none⟩) ([([1, 2, 3] : List Int), ([1, 2, 3] : List Int)] : List (List Int)).length 2 26 1 [.slice (some ⟨b1, 0, none⟩) ([1, 2, 3] : List Int).length 3, .slice (some ⟨b3, 0, none⟩) ([1, 2, 3] : List Int).length 3]) 0 rfl rfl (fun m hm => rowo_of_row (row_of_blk (k := 2) rfl (by decide) hm)) ?_
 refine St.buildSlice (e := 3) (cells := #[.int .i64 0, .int .i64 1]) (vs := #[(0, .int .i64 0), (1, .int .i64 1)]) (fun a _ => by simp only [List.map_toArray, List.map_cons, List.map_nil, Act.eval] <;> rfl) (fun _ => by kernel_rfl) rfl trivial ?_
 intro b13
 refine St.weak (R := [rowo (some ⟨b11, 0, none⟩) ([([1, 2, 3] : List Int), ([1, 2, 3] : List Int)] : List (List Int)).length 2 26 1 [.slice (some ⟨b1, 0, none⟩) ([1, 2, 3] : List Int).length 3, .slice (some ⟨b3, 0, none⟩) ([1, 2, 3] : List Int).length 3]]) (c' := rowo (some ⟨b13, 0, none⟩) ([0, 1] : List Int).length 2 3 1 [.int .i64 0, .int .i64 1]) 0 rfl rfl (fun m hm => rowo_of_row (row_of_blk (k := 2) rfl (by decide) hm)) ?_
 refine St.buildSlice (e := 3) (cells := #[.int .i64 1, .int .i64 1]) (vs := #[(0, .int .i64 1), (1, .int .i64 1)]) (fun a _ => by simp only [List.map_toArray, List.map_cons, List.map_nil, Act.eval] <;> rfl) (fun _ => by kernel_rfl) rfl trivial ?_
 intro b15
 refine St.weak (R := [rowo (some ⟨b13, 0, none⟩) ([0, 1] : List Int).length 2 3 1 [.int .i64 0, .int .i64 1], rowo (some ⟨b11, 0, none⟩) ([([1, 2, 3] : List Int), ([1, 2, 3] : List Int)] : List (List Int)).length 2 26 1 [.slice (some ⟨b1, 0, none⟩) ([1, 2, 3] : List Int).length 3, .slice (some ⟨b3, 0, none⟩) ([1, 2, 3] : List Int).length 3]]) (c' := rowo (some ⟨b15, 0, none⟩) ([1, 1] : List Int).length 2 3 1 [.int .i64 1, .int .i64 1]) 0 rfl rfl (fun m hm => rowo_of_row (row_of_blk (k := 2) rfl (by decide) hm)) ?_
 refine St.val (v := (.agg #[.int .i64 0, .slice (some ⟨b13, 0, none⟩) ([0, 1] : List Int).length 2, .slice (some ⟨b15, 0, none⟩) ([1, 1] : List Int).length 2, .int .i64 3, .slice none 0 0])) (Yields.build (v := (.agg #[.int .i64 0, .slice (some ⟨b13, 0, none⟩) ([0, 1] : List Int).length 2, .slice (some ⟨b15, 0, none⟩) ([1, 1] : List Int).length 2, .int .i64 3, .slice none 0 0])) (vs := #[(0, .int .i64 0), (1, .slice (some ⟨b13, 0, none⟩) ([0, 1] : List Int).length 2), (2, .slice (some ⟨b15, 0, none⟩) ([1, 1] : List Int).length 2), (3, .int .i64 3)]) (fun _ ha => evp4 ha rfl rfl rfl rfl) (fun _ => by kernel_rfl)) trivial rfl rfl ?_
 refine St.frz 1 rfl rfl rfl (show Cat (Kind.int .i64) F8 [.int .i64 0, .int .i64 1] ([0, 1] : List Int) from ⟨[.int .i64 0], _, rfl, rfl, ⟨[.int .i64 1], _, rfl, rfl, rfl⟩⟩) (show Bnd 8 ([0, 1] : List Int) from ⟨by simp, by simp⟩) ?_
 intro F17 l18 h19
 refine St.frz 0 rfl rfl rfl (Cat.mono l18 (show Cat (Kind.int .i64) F8 [.int .i64 1, .int .i64 1] ([1, 1] : List Int) from ⟨[.int .i64 1], _, rfl, rfl, ⟨[.int .i64 1], _, rfl, rfl, rfl⟩⟩)) (show Bnd 8 ([1, 1] : List Int) from ⟨by simp, by simp⟩) ?_
 intro F20 l21 h22
 refine St.buildSlice (e := 28) (cells := #[.int .i64 0, .slice (some ⟨b13, 0, none⟩) ([0, 1] : List Int).length 2, .slice (some ⟨b15, 0, none⟩) ([1, 1] : List Int).length 2, .int .i64 3, .slice none 0 0]) (vs := #[(0, .agg #[.int .i64 0, .slice (some ⟨b13, 0, none⟩) ([0, 1] : List Int).length 2, .slice (some ⟨b15, 0, none⟩) ([1, 1] : List Int).length 2, .int .i64 3, .slice none 0 0])]) (fun _ ha => evp1 ha rfl) (fun _ => by kernel_rfl) rfl trivial ?_
 intro b23
 refine St.weak (R := [rowo (some ⟨b11, 0, none⟩) ([([1, 2, 3] : List Int), ([1, 2, 3] : List Int)] : List (List Int)).length 2 26 1 [.slice (some ⟨b1, 0, none⟩) ([1, 2, 3] : List Int).length 3, .slice (some ⟨b3, 0, none⟩) ([1, 2, 3] : List Int).length 3]]) (c' := rowo (some ⟨b23, 0, none⟩) ([(DLimit.mk 0 ([0, 1] : List Int) ([1, 1] : List Int) 3 ([] : List (List Int)))] : List DLimit).length 1 28 5 [.int .i64 0, .slice (some ⟨b13, 0, none⟩) ([0, 1] : List Int).length 2, .slice (some ⟨b15, 0, none⟩) ([1, 1] : List Int).length 2, .int .i64 3, .slice none 0 0]) 0 rfl rfl (fun m hm => rowo_of_row (row_of_blk (k := 1) rfl (by decide) hm)) ?_
 refine St.val (v := (.agg #[.slice (some ⟨b11, 0, none⟩) ([([1, 2, 3] : List Int), ([1, 2, 3] : List Int)] : List (List Int)).length 2, .slice (some ⟨b23, 0, none⟩) ([(DLimit.mk 0 ([0, 1] : List Int) ([1, 1] : List Int) 3 ([] : List (List Int)))] : List DLimit).length 1])) (Yields.build (v := (.agg #[.slice (some ⟨b11, 0, none⟩) ([([1, 2, 3] : List Int), ([1, 2, 3] : List Int)] : List (List Int)).length 2, .slice (some ⟨b23, 0, none⟩) ([(DLimit.mk 0 ([0, 1] : List Int) ([1, 1] : List Int) 3 ([] : List (List Int)))] : List DLimit).length 1])) (vs := #[(0, .slice (some ⟨b11, 0, none⟩) ([([1, 2, 3] : List Int), ([1, 2, 3] : List Int)] : List (List Int)).length 2), (1, .slice (some ⟨b23, 0, none⟩) ([(DLimit.mk 0 ([0, 1] : List Int) ([1, 1] : List Int) 3 ([] : List (List Int)))] : List DLimit).length 1)]) (fun _ ha => evp2 ha rfl rfl) (fun _ => by kernel_rfl)) trivial rfl rfl ?_
 refine St.alloc tz25 trivial rfl ?_
 intro b25
 refine St.storen (R := [rowo (some ⟨b23, 0, none⟩) ([(DLimit.mk 0 ([0, 1] : List Int) ([1, 1] : List Int) 3 ([] : List (List Int)))] : List DLimit).length 1 28 5 [.int .i64 0, .slice (some ⟨b13, 0, none⟩) ([0, 1] : List Int).length 2, .slice (some ⟨b15, 0, none⟩) ([1, 1] : List Int).length 2, .int .i64 3, .slice none 0 0], rowo (some ⟨b11, 0, none⟩) ([([1, 2, 3] : List Int), ([1, 2, 3] : List Int)] : List (List Int)).length 2 26 1 [.slice (some ⟨b1, 0, none⟩) ([1, 2, 3] : List Int).length 3, .slice (some ⟨b3, 0, none⟩) ([1, 2, 3] : List Int).length 3]]) rfl rfl 0 rfl rfl ta25 rfl rfl rfl trivial (cs' := #[.slice (some ⟨b11, 0, none⟩) ([([1, 2, 3] : List Int), ([1, 2, 3] : List Int)] : List (List Int)).length 2, .slice (some ⟨b23, 0, none⟩) ([(DLimit.mk 0 ([0, 1] : List Int) ([1, 1] : List Int) 3 ([] : List (List Int)))] : List DLimit).length 1]) rfl ?_
 refine St.nil ?_
 refine St.norm ?_
 refine St.seq ?_
 refine St.region ?_
 refine St.val (v := (.agg #[.slice (some ⟨b11, 0, none⟩) ([([1, 2, 3] : List Int), ([1, 2, 3] : List Int)] : List (List Int)).length 2, .slice (some ⟨b23, 0, none⟩) ([(DLimit.mk 0 ([0, 1] : List Int) ([1, 1] : List Int) 3 ([] : List (List Int)))] : List DLimit).length 1])) (Yields.load rfl (Loads.Hk (vs := [.slice (some ⟨b11, 0, none⟩) ([([1, 2, 3] : List Int), ([1, 2, 3] : List Int)] : List (List Int)).length 2, .slice (some ⟨b23, 0, none⟩) ([(DLimit.mk 0 ([0, 1] : List Int) ([1, 1] : List Int) 3 ([] : List (List Int)))] : List DLimit).length 1]) 0 rfl ta25 rfl rfl)) trivial rfl rfl ?_
 refine St.frz 2 rfl rfl rfl (Cat.mono (PH.le_trans l18 l21) (show Cat (Kind.sl 8 (Kind.int .i64)) F8 [.slice (some ⟨b1, 0, none⟩) ([1, 2, 3] : List Int).length 3, .slice (some ⟨b3, 0, none⟩) ([1, 2, 3] : List Int).length 3] ([([1, 2, 3] : List Int), ([1, 2, 3] : List Int)] : List (List Int)) from ⟨[.slice (some ⟨b1, 0, none⟩) ([1, 2, 3] : List Int).length 3], _, rfl, ⟨_, _, rfl, (Fsl.mono l9 h7)⟩, ⟨[.slice (some ⟨b3, 0, none⟩) ([1, 2, 3] : List Int).length 3], _, rfl, ⟨_, _, rfl, h10⟩, rfl⟩⟩)) (show Bnd 24 ([([1, 2, 3] : List Int), ([1, 2, 3] : List Int)] : List (List Int)) from ⟨by simp, by simp⟩) ?_
 intro F26 l27 h28
 refine St.frz 1 rfl rfl rfl (Cat.mono l27 (show Cat KDLimit F20 [.int .i64 0, .slice (some ⟨b13, 0, none⟩) ([0, 1] : List Int).length 2, .slice (some ⟨b15, 0, none⟩) ([1, 1] : List Int).length 2, .int .i64 3, .slice none 0 0] ([(DLimit.mk 0 ([0, 1] : List Int) ([1, 1] : List Int) 3 ([] : List (List Int)))] : List DLimit) from ⟨[.int .i64 0, .slice (some ⟨b13, 0, none⟩) ([0, 1] : List Int).length 2, .slice (some ⟨b15, 0, none⟩) ([1, 1] : List Int).length 2, .int .i64 3, .slice none 0 0], _, rfl, (DLimit.shut (Fsl.mono l21 h19) h22 Fsl.nil), rfl⟩)) (show Bnd 88 ([(DLimit.mk 0 ([0, 1] : List Int) ([1, 1] : List Int) 3 ([] : List (List Int)))] : List DLimit) from ⟨by simp, by simp⟩) ?_
 intro F29 l30 h31
 obtain ⟨q32, e33, hm⟩ := bS hm
 refine St.call [blk b25 (.cells #[.slice (some ⟨b11, 0, none⟩) ([([1, 2, 3] : List Int), ([1, 2, 3] : List Int)] : List (List Int)).length 2, .slice (some ⟨b23, 0, none⟩) ([(DLimit.mk 0 ([0, 1] : List Int) ([1, 1] : List Int) 3 ([] : List (List Int)))] : List DLimit).length 1] 25 (0, 0))] (m_domain_Narrow_sp (a0 := (DProblem.mk ([([1, 2, 3] : List Int), ([1, 2, 3] : List Int)] : List (List Int)) ([(DLimit.mk 0 ([0, 1] : List Int) ([1, 1] : List Int) 3 ([] : List (List Int)))] : List DLimit))) (Fsl.mono l30 h28) h31 e33) rfl (fun _ ha => ev1 ha rfl) rfl en9 rfl rfl trivial ?_
 rintro _ F34 _ ⟨A36, c37, rfl, h38, rfl⟩ l35
 refine St.val (v := (.tuple #[.slice A36 q32.1.length c37, .bool q32.2.1, .int .i64 q32.2.2])) (Yields.move rfl) trivial rfl rfl ?_
 refine St.val (v := (.slice A36 q32.1.length c37)) (Yields.extract rfl rfl) trivial rfl rfl ?_
 refine St.val (v := (.bool q32.2.1)) (Yields.extract rfl rfl) trivial rfl rfl ?_
 refine St.val (v := (.int .i64 q32.2.2)) (Yields.extract rfl rfl) trivial rfl rfl ?_
 refine St.val (v := (.slice A36 q32.1.length c37)) (Yields.assign rfl) trivial rfl rfl ?_
 refine St.val (v := (.bool q32.2.1)) (Yields.assign rfl) trivial rfl rfl ?_
 refine St.val (v := (.int .i64 q32.2.2)) (Yields.assign rfl) trivial rfl rfl ?_
 refine St.nil ?_
 refine St.norm ?_
 obtain ⟨z40, hm, hk43⟩ := bS hm
 refine St.cutI (fun a w => ∃ (F41 : PH), PH.le F34 F41 ∧ Has Try.f8.ntmps a [(0, .bool z40)] ∧ Sat ⟨w0, fun b => m0 b ≠ none, F⟩ F41 [] w) ?_ ?_
 ·skip
  refine St.region ?_
  refine St.val (v := (.int .i64 q32.2.2)) (Yields.move rfl) trivial rfl rfl ?_
  by_cases q44 : q32.2.2 = 0
  ·replace hm := iT hm q44
   refine St.val (v := (.bool true)) (Yields.is q44 (Yields.eq rfl rfl)) trivial rfl rfl ?_
   refine St.val (v := (.bool true)) (Yields.move rfl) trivial rfl rfl ?_
   by_cases q45 : q32.2.1 = true
   ·replace hm := iT hm q45
    have hb46 : (q32.2.1) = true := q45
    try rw [hb46]
    refine St.val (v := (.bool true)) (Yields.move rfl) rfl rfl rfl ?_
    refine St.val (v := (.bool true)) (Yields.pick_t rfl rfl) trivial rfl rfl ?_
    refine St.val (v := (.bool true)) (Yields.move rfl) trivial rfl rfl ?_
    refine St.val (v := (.slice A36 q32.1.length c37)) (Yields.move rfl) rfl rfl rfl ?_
    refine St.buildSlice (e := 3) (cells := #[.int .i64 1, .int .i64 2]) (vs := #[(0, .int .i64 1), (1, .int .i64 2)]) (fun a _ => by simp only [List.map_toArray, List.map_cons, List.map_nil, Act.eval] <;> rfl) (fun _ => by kernel_rfl) rfl rfl ?_
    intro b47
    refine St.weak (R := [blk b25 (.cells #[.slice (some ⟨b11, 0, none⟩) ([([1, 2, 3] : List Int), ([1, 2, 3] : List Int)] : List (List Int)).length 2, .slice (some ⟨b23, 0, none⟩) ([(DLimit.mk 0 ([0, 1] : List Int) ([1, 1] : List Int) 3 ([] : List (List Int)))] : List DLimit).length 1] 25 (0, 0))]) (c' := rowo (some ⟨b47, 0, none⟩) ([1, 2] : List Int).length 2 3 1 [.int .i64 1, .int .i64 2]) 0 rfl rfl (fun m hm => rowo_of_row (row_of_blk (k := 2) rfl (by decide) hm)) ?_
    refine St.buildSlice (e := 3) (cells := #[.int .i64 1, .int .i64 2]) (vs := #[(0, .int .i64 1), (1, .int .i64 2)]) (fun a _ => by simp only [List.map_toArray, List.map_cons, List.map_nil, Act.eval] <;> rfl) (fun _ => by kernel_rfl) rfl rfl ?_
    intro b49
    refine St.weak (R := [rowo (some ⟨b47, 0, none⟩) ([1, 2] : List Int).length 2 3 1 [.int .i64 1, .int .i64 2], blk b25 (.cells #[.slice (some ⟨b11, 0, none⟩) ([([1, 2, 3] : List Int), ([1, 2, 3] : List Int)] : List (List Int)).length 2, .slice (some ⟨b23, 0, none⟩) ([(DLimit.mk 0 ([0, 1] : List Int) ([1, 1] : List Int) 3 ([] : List (List Int)))] : List DLimit).length 1] 25 (0, 0))]) (c' := rowo (some ⟨b49, 0, none⟩) ([1, 2] : List Int).length 2 3 1 [.int .i64 1, .int .i64 2]) 0 rfl rfl (fun m hm => rowo_of_row (row_of_blk (k := 2) rfl (by decide) hm)) ?_
    refine St.frz 1 rfl rfl rfl (show Cat (Kind.int .i64) F34 [.int .i64 1, .int .i64 2] ([1, 2] : List Int) from ⟨[.int .i64 1], _, rfl, rfl, ⟨[.int .i64 2], _, rfl, rfl, rfl⟩⟩) (show Bnd 8 ([1, 2] : List Int) from ⟨by simp, by simp⟩) ?_
    intro F51 l52 h53
    refine St.frz 0 rfl rfl rfl (Cat.mono l52 (show Cat (Kind.int .i64) F34 [.int .i64 1, .int .i64 2] ([1, 2] : List Int) from ⟨[.int .i64 1], _, rfl, rfl, ⟨[.int .i64 2], _, rfl, rfl, rfl⟩⟩)) (show Bnd 8 ([1, 2] : List Int) from ⟨by simp, by simp⟩) ?_
    intro F54 l55 h56
    refine St.buildSlice (e := 26) (cells := #[.slice (some ⟨b47, 0, none⟩) ([1, 2] : List Int).length 2, .slice (some ⟨b49, 0, none⟩) ([1, 2] : List Int).length 2]) (vs := #[(0, .slice (some ⟨b47, 0, none⟩) ([1, 2] : List Int).length 2), (1, .slice (some ⟨b49, 0, none⟩) ([1, 2] : List Int).length 2)]) (fun _ ha => evp2 ha rfl rfl) (fun _ => by kernel_rfl) rfl rfl ?_
    intro b57
    refine St.weak (R := [blk b25 (.cells #[.slice (some ⟨b11, 0, none⟩) ([([1, 2, 3] : List Int), ([1, 2, 3] : List Int)] : List (List Int)).length 2, .slice (some ⟨b23, 0, none⟩) ([(DLimit.mk 0 ([0, 1] : List Int) ([1, 1] : List Int) 3 ([] : List (List Int)))] : List DLimit).length 1] 25 (0, 0))]) (c' := rowo (some ⟨b57, 0, none⟩) ([([1, 2] : List Int), ([1, 2] : List Int)] : List (List Int)).length 2 26 1 [.slice (some ⟨b47, 0, none⟩) ([1, 2] : List Int).length 2, .slice (some ⟨b49, 0, none⟩) ([1, 2] : List Int).length 2]) 0 rfl rfl (fun m hm => rowo_of_row (row_of_blk (k := 2) rfl (by decide) hm)) ?_
    refine St.pick (R := [blk b25 (.cells #[.slice (some ⟨b11, 0, none⟩) ([([1, 2, 3] : List Int), ([1, 2, 3] : List Int)] : List (List Int)).length 2, .slice (some ⟨b23, 0, none⟩) ([(DLimit.mk 0 ([0, 1] : List Int) ([1, 1] : List Int) 3 ([] : List (List Int)))] : List DLimit).length 1] 25 (0, 0))]) 0 rfl rfl ?_
    obtain ⟨q59, e60, hm⟩ := bS hm
    refine St.call [blk b25 (.cells #[.slice (some ⟨b11, 0, none⟩) ([([1, 2, 3] : List Int), ([1, 2, 3] : List Int)] : List (List Int)).length 2, .slice (some ⟨b23, 0, none⟩) ([(DLimit.mk 0 ([0, 1] : List Int) ([1, 1] : List Int) 3 ([] : List (List Int)))] : List DLimit).length 1] 25 (0, 0))] (CallSp.lend (Hl := [rowo (some ⟨b57, 0, none⟩) ([([1, 2] : List Int), ([1, 2] : List Int)] : List (List Int)).length 2 26 1 [.slice (some ⟨b47, 0, none⟩) ([1, 2] : List Int).length 2, .slice (some ⟨b49, 0, none⟩) ([1, 2] : List Int).length 2]]) (fun m_ hm_ hd_ h1_ h2_ => (m_ref01_SameRows_sp (Fsl.mono h1_ (Fsl.mono (PH.le_trans l52 l55) h38)) (lentR hm_ 0 rfl rfl (show Cat (Kind.sl 8 (Kind.int .i64)) F54 [.slice (some ⟨b47, 0, none⟩) ([1, 2] : List Int).length 2, .slice (some ⟨b49, 0, none⟩) ([1, 2] : List Int).length 2] ([([1, 2] : List Int), ([1, 2] : List Int)] : List (List Int)) from ⟨[.slice (some ⟨b47, 0, none⟩) ([1, 2] : List Int).length 2], _, rfl, ⟨_, _, rfl, (Fsl.mono l55 h53)⟩, ⟨[.slice (some ⟨b49, 0, none⟩) ([1, 2] : List Int).length 2], _, rfl, ⟨_, _, rfl, h56⟩, rfl⟩⟩) (show Bnd 24 ([([1, 2] : List Int), ([1, 2] : List Int)] : List (List Int)) from ⟨by simp, by simp⟩) h1_ h2_) e60).mono (fun _ _ _ h_ _ _ => h_))) rfl (fun _ ha => ev2 ha rfl rfl) rfl en10 rfl rfl rfl ?_
    rintro _ F61 _ ⟨_, rfl, rfl, rfl⟩ l62
    refine St.val (v := (.bool q59)) (Yields.pick_t rfl rfl) trivial rfl rfl ?_
    refine St.val (v := (.bool q59)) (Yields.assign rfl) trivial rfl rfl ?_
    refine St.nil ?_
    obtain rfl := sI hm
    intro a w ha hs
    exact ⟨F61, (PH.le_trans l52 (PH.le_trans l55 l62)), ha.covers ⟨rfl, trivial⟩, (Among.of Among.none _ hs)⟩
   ·replace hm := iF hm q45
    have hb63 : (q32.2.1) = false := eq_false_of_ne_true q45
    try rw [hb63]
    refine St.val (v := (.bool false)) (Yields.move rfl) rfl rfl rfl ?_
    refine St.val (v := (.bool false)) (Yields.pick_t rfl rfl) trivial rfl rfl ?_
    refine St.val (v := (.bool false)) (Yields.move rfl) trivial rfl rfl ?_
    refine St.unwanted rfl rfl rfl ?_
    refine St.unwanted rfl rfl rfl ?_
    refine St.unwanted rfl rfl rfl ?_
    refine St.unwanted rfl rfl rfl ?_
    refine St.unwanted rfl rfl rfl ?_
    refine St.val (v := (.bool false)) (Yields.pick_f rfl rfl) trivial rfl rfl ?_
    refine St.val (v := (.bool false)) (Yields.assign rfl) trivial rfl rfl ?_
    refine St.nil ?_
    obtain rfl := sI hm
    intro a w ha hs
    exact ⟨F34, (PH.le_refl _), ha.covers ⟨rfl, trivial⟩, (Among.of Among.none _ hs)⟩
  ·replace hm := iF hm q44
   refine St.val (v := (.bool false)) (Yields.isnt q44 (Yields.eq rfl rfl)) trivial rfl rfl ?_
   refine St.val (v := (.bool false)) (Yields.move rfl) trivial rfl rfl ?_
   refine St.unwanted rfl rfl rfl ?_
   refine St.val (v := (.bool false)) (Yields.pick_f rfl rfl) trivial rfl rfl ?_
   refine St.val (v := (.bool false)) (Yields.move rfl) trivial rfl rfl ?_
   refine St.unwanted rfl rfl rfl ?_
   refine St.unwanted rfl rfl rfl ?_
   refine St.unwanted rfl rfl rfl ?_
   refine St.unwanted rfl rfl rfl ?_
   refine St.unwanted rfl rfl rfl ?_
   refine St.val (v := (.bool false)) (Yields.pick_f rfl rfl) trivial rfl rfl ?_
   refine St.val (v := (.bool false)) (Yields.assign rfl) trivial rfl rfl ?_
   refine St.nil ?_
   obtain rfl := sI hm
   intro a w ha hs
   exact ⟨F34, (PH.le_refl _), ha.covers ⟨rfl, trivial⟩, (Among.of Among.none _ hs)⟩
 ·rintro a w ⟨F41, l42, ha, hs⟩
  replace hm := hk43
  refine St.use (?_ : St _ _ _ _ _ _) ha hs
  clear ha hs a w
  refine St.ret ?_
  obtain rfl := sI hm
  exact St.doneR1 rfl rfl ⟨rfl, rfl⟩ (fun w hs => Among.of Among.none w hs)

theorem m_ref11_of_sp {F : PH} {g : Nat} {a0 : DLimit} {a1 : List Int} {pA0_0 : Option Addr} {pc0_0 : Nat} {pA0_1 : Option Addr} {pc0_1 : Nat} {pA0_2 : Option Addr} {pc0_2 : Nat} {pA1 : Option Addr} {pc1 : Nat} (ph0_0 : Fsl 8 (Kind.int .i64) F pA0_0 pc0_0 a0.Vars) (ph0_1 : Fsl 8 (Kind.int .i64) F pA0_1 pc0_1 a0.A) (ph0_2 : Fsl 24 (Kind.sl 8 (Kind.int .i64)) F pA0_2 pc0_2 a0.Rows) (ph1 : Fsl 8 (Kind.int .i64) F pA1 pc1 a1) {r : List Int} (hm : m_ref11_of g a0 a1 = some r) :
  CallSp Try.prog 32 #[.agg #[.int .i64 a0.Kind, .slice pA0_0 a0.Vars.length pc0_0, .slice pA0_1 a0.A.length pc0_1, .int .i64 a0.B, .slice pA0_2 a0.Rows.length pc0_2], .slice pA1 a1.length pc1] F [] (fun u F' H' => ∃ (B0 : Option Addr) (d0 : Nat), u = (.slice B0 r.length d0) ∧ Fsl 8 (Kind.int .i64) F' B0 d0 r ∧ H' = []) := by
 unfold m_ref11_of at hm
 refine CallSp.enter (args := [.agg #[.int .i64 a0.Kind, .slice pA0_0 a0.Vars.length pc0_0, .slice pA0_1 a0.A.length pc0_1, .int .i64 a0.B, .slice pA0_2 a0.Rows.length pc0_2], .slice pA1 a1.length pc1]) Try.func32 rfl rfl ?_
 intro w0 m0 hm0
 refine St.seq ?_
 refine St.region ?_
 refine St.box rfl trivial rfl ?_
 intro b5
 refine St.val (v := (.slice none 0 0)) (Yields.assign rfl) trivial rfl rfl ?_
 refine St.nil ?_
 refine St.norm ?_
 refine St.seq ?_
 refine St.region ?_
 refine St.val (v := (.slice none 0 0)) (Yields.assign rfl) trivial rfl rfl ?_
 refine St.nil ?_
 refine St.norm ?_
 obtain ⟨z6, hm, hk13⟩ := bS hm
 refine St.cutI (fun a w => ∃ (A8 : Option Addr) (c9 : Nat) (cells11 : List Value), Cat (Kind.int .i64) F cells11 z6 ∧ Bnd 8 z6 ∧ Has Try.f32.ntmps a [(5, .slice A8 z6.length c9)] ∧ Sat ⟨w0, fun b => m0 b ≠ none, F⟩ F [rowo A8 z6.length c9 3 1 cells11] w) ?_ ?_
 ·skip
  refine St.seq ?_
  refine St.region ?_
  refine St.val (v := (.int .i64 0)) (Yields.assign rfl) trivial rfl rfl ?_
  refine St.nil ?_
  refine St.norm ?_
  refine St.block ?_
  refine St.loopM hm (fun s22 a w => ∃ (A27 : Option Addr) (c28 : Nat) (cells30 : List Value), Cat (Kind.int .i64) F cells30 s22.1 ∧ Bnd 8 s22.1 ∧ Has Try.f32.ntmps a [(1, .slice pA1 a1.length pc1), (2, .pointer (some ⟨b5, 0, none⟩)), (5, .slice A27 s22.1.length c28), (6, .int .i64 ((s22.2 : Nat) : Int))] ∧ Sat ⟨w0, fun b => m0 b ≠ none, F⟩ F [blk b5 (.cells #[.int .i64 a0.Kind, .slice pA0_0 a0.Vars.length pc0_0, .slice pA0_1 a0.A.length pc0_1, .int .i64 a0.B, .slice pA0_2 a0.Rows.length pc0_2] 28 (0, 0)), rowo A27 s22.1.length c28 3 1 cells30] w) ?_ ?_
  ·skip
   refine St.rowo_new 3 1 ?_
   intro a w ha hs
   exact ⟨none, 0, [], (show Cat (Kind.int .i64) _ [] [] from rfl), Bnd.of_nil, ha.covers ⟨rfl, rfl, rfl, rfl, trivial⟩, (Among.of (Among.take 1 rfl rfl (Among.take 0 rfl rfl Among.none)) _ hs)⟩
  ·rintro s22 o23 co24 hm ho25 a w ⟨A27, c28, cells30, h29, b31, ha, hs⟩
   refine St.use (?_ : St _ _ _ _ _ _) ha hs
   clear ha hs a w
   refine St.seq ?_
   refine St.seq ?_
   refine St.region ?_
   refine St.val (v := (.int .i64 ((s22.2 : Nat) : Int))) (Yields.move rfl) trivial rfl rfl ?_
   refine St.val (v := (.pointer (some ⟨b5, 1, none⟩))) (Yields.fieldAddr (v := (.pointer (some ⟨b5, 1, none⟩))) rfl (fun _ => by kernel_rfl)) trivial rfl rfl ?_
   refine St.val (v := (.slice pA0_0 a0.Vars.length pc0_0)) (Yields.load rfl (Loads.H1 0 rfl tc26 rfl)) trivial rfl rfl ?_
   refine St.val (v := (.int .i64 ((a0.Vars.length : Nat) : Int))) (Yields.lenSlice tu26 rfl) trivial rfl rfl ?_
   refine St.val (v := (.bool (decide (((s22.2 : Nat) : Int) < ((a0.Vars.length : Nat) : Int))))) (Yields.lt rfl rfl) trivial rfl rfl ?_
   refine St.nil ?_
   refine St.norm ?_
   refine St.cond_b rfl ?_ ?_
   ·intro q33
    replace q33 : ((s22.2 : Nat) : Int) < ((a0.Vars.length : Nat) : Int) := of_decide_eq_true q33
    replace hm := iT hm q33
    refine St.skip ?_
    refine St.norm ?_
    refine St.seq ?_
    refine St.block ?_
    refine St.region ?_
    refine St.val (v := (.slice A27 s22.1.length c28)) (Yields.move rfl) trivial rfl rfl ?_
    refine St.val (v := (.slice pA1 a1.length pc1)) (Yields.move rfl) trivial rfl rfl ?_
    refine St.val (v := (.pointer (some ⟨b5, 1, none⟩))) (Yields.fieldAddr (v := (.pointer (some ⟨b5, 1, none⟩))) rfl (fun _ => by kernel_rfl)) trivial rfl rfl ?_
    refine St.val (v := (.slice pA0_0 a0.Vars.length pc0_0)) (Yields.load rfl (Loads.H1 0 rfl tc26 rfl)) trivial rfl rfl ?_
    refine St.val (v := (.int .i64 ((s22.2 : Nat) : Int))) (Yields.move rfl) trivial rfl rfl ?_
    obtain ⟨x34, e35, hm⟩ := bS hm
    obtain ⟨p36, cs37, jx38, R39, k40⟩ := ph0_0.nidx e35
    obtain rfl := R39
    refine St.val (v := (.pointer (some p36))) (Yields.idx jx38 ts26 rfl rfl) trivial rfl rfl ?_
    refine St.val (v := (.int .i64 x34)) (Yields.load rfl (Loads.Fat k40 tc3 rfl)) trivial rfl rfl ?_
    obtain ⟨x41, e42, hm⟩ := bS hm
    obtain ⟨p43, cs44, jx45, R46, k47⟩ := ph1.idx e42
    obtain rfl := R46
    refine St.val (v := (.pointer (some p43))) (Yields.idx jx45 ts26 rfl rfl) trivial rfl rfl ?_
    refine St.val (v := (.int .i64 x41)) (Yields.load rfl (Loads.Fat k47 tc3 rfl)) trivial rfl rfl ?_
    refine St.buildSlice (e := 3) (cells := #[.int .i64 x41]) (vs := #[(0, .int .i64 x41)]) (fun _ ha => evp1 ha rfl) (fun _ => by kernel_rfl) rfl trivial ?_
    intro b48
    obtain ⟨x53, e54, hm⟩ := bS hm
    refine St.pushL (R := [blk b48 (.cells #[.int .i64 x41] 3 (0, 0)), blk b5 (.cells #[.int .i64 a0.Kind, .slice pA0_0 a0.Vars.length pc0_0, .slice pA0_1 a0.A.length pc0_1, .int .i64 a0.B, .slice pA0_2 a0.Rows.length pc0_2] 28 (0, 0))]) (R3 := [blk b5 (.cells #[.int .i64 a0.Kind, .slice pA0_0 a0.Vars.length pc0_0, .slice pA0_1 a0.A.length pc0_1, .int .i64 a0.B, .slice pA0_2 a0.Rows.length pc0_2] 28 (0, 0))]) e54 ts26 rfl rfl rfl rfl rfl 2 rfl rfl 0 rfl 0 rfl rfl h29 ⟨[.int .i64 x41], _, rfl, rfl, rfl⟩ rfl trivial ?_
    intro A49 c50 cells51 h52
    refine St.val (v := (.slice A49 x53.length c50)) (Yields.assign rfl) trivial rfl rfl ?_
    refine St.nil ?_
    refine St.innorm ?_
    refine St.norm ?_
    refine St.region ?_
    refine St.val (v := (.int .i64 ((s22.2 : Nat) : Int))) (Yields.move rfl) trivial rfl rfl ?_
    refine St.val (v := (.int .i64 ((s22.2 + 1 : Nat) : Int))) (Yields.addn (j := 1) rfl rfl rfl (by have q_0 := q33; have q_1 := ph0_0.bnd.2; omega)) trivial rfl rfl ?_
    refine St.val (v := (.int .i64 ((s22.2 + 1 : Nat) : Int))) (Yields.assign rfl) trivial rfl rfl ?_
    refine St.nil ?_
    refine St.norm ?_
    obtain rfl := sI hm
    intro a w ha hs
    exact ⟨(x53, s22.2 + 1), aL ho25, A49, c50, cells51, h52, (Bnd.of_push e54), ha.covers ⟨rfl, rfl, rfl, rfl, trivial⟩, (Among.of (Among.take 1 rfl rfl (Among.take 0 rfl rfl Among.none)) _ hs)⟩
   ·intro q56
    replace q56 : ¬ (((s22.2 : Nat) : Int) < ((a0.Vars.length : Nat) : Int)) := of_decide_eq_false q56
    replace hm := iF hm q56
    refine St.exit ?_
    refine St.thenexit ?_
    refine St.thenexit ?_
    refine St.inexit ?_
    obtain rfl := sI hm
    obtain rfl := aR ho25
    intro a w ha hs
    exact ⟨A27, c28, cells30, h29, b31, ha.covers ⟨rfl, trivial⟩, (Among.of (Among.take 1 rfl rfl Among.none) _ hs)⟩
 ·rintro a w ⟨A8, c9, cells11, h10, b12, ha, hs⟩
  replace hm := hk13
  refine St.use (?_ : St _ _ _ _ _ _) ha hs
  clear ha hs a w
  refine St.seq ?_
  refine St.region ?_
  refine St.val (v := (.slice A8 z6.length c9)) (Yields.move rfl) trivial rfl rfl ?_
  refine St.val (v := (.slice A8 z6.length c9)) (Yields.assign rfl) trivial rfl rfl ?_
  refine St.nil ?_
  refine St.norm ?_
  refine St.ret ?_
  refine St.frz 0 rfl rfl rfl h10 b12 ?_
  intro F57 l58 h59
  obtain rfl := sI hm
  exact St.doneR1 rfl rfl ⟨A8, c9, rfl, h59, rfl⟩ (fun w hs => Among.of Among.none w hs)

theorem m_ref11_Meets_sp {F : PH} {g : Nat} {a0 : DLimit} {a1 : List Int} {pA0_0 : Option Addr} {pc0_0 : Nat} {pA0_1 : Option Addr} {pc0_1 : Nat} {pA0_2 : Option Addr} {pc0_2 : Nat} {pA1 : Option Addr} {pc1 : Nat} (ph0_0 : Fsl 8 (Kind.int .i64) F pA0_0 pc0_0 a0.Vars) (ph0_1 : Fsl 8 (Kind.int .i64) F pA0_1 pc0_1 a0.A) (ph0_2 : Fsl 24 (Kind.sl 8 (Kind.int .i64)) F pA0_2 pc0_2 a0.Rows) (ph1 : Fsl 8 (Kind.int .i64) F pA1 pc1 a1) {r : Bool} (hm : m_ref11_Meets g a0 a1 = some r) :
  CallSp Try.prog 31 #[.agg #[.int .i64 a0.Kind, .slice pA0_0 a0.Vars.length pc0_0, .slice pA0_1 a0.A.length pc0_1, .int .i64 a0.B, .slice pA0_2 a0.Rows.length pc0_2], .slice pA1 a1.length pc1] F [] (fun u F' H' => u = (.bool r) ∧ H' = []) := by
 unfold m_ref11_Meets at hm
 refine CallSp.enter (args := [.agg #[.int .i64 a0.Kind, .slice pA0_0 a0.Vars.length pc0_0, .slice pA0_1 a0.A.length pc0_1, .int .i64 a0.B, .slice pA0_2 a0.Rows.length pc0_2], .slice pA1 a1.length pc1]) Try.func31 rfl rfl ?_
 intro w0 m0 hm0
 refine St.seq ?_
 refine St.region ?_
 refine St.box rfl trivial rfl ?_
 intro b5
 refine St.val (v := (.bool false)) (Yields.assign rfl) trivial rfl rfl ?_
 refine St.nil ?_
 refine St.norm ?_
 refine St.seq ?_
 refine St.seq ?_
 refine St.region ?_
 refine St.val (v := (.pointer (some ⟨b5, 0, none⟩))) (Yields.fieldAddr (v := (.pointer (some ⟨b5, 0, none⟩))) rfl (fun _ => by kernel_rfl)) trivial rfl rfl ?_
 refine St.val (v := (.int .i64 a0.Kind)) (Yields.load rfl (Loads.H1 0 rfl tc3 rfl)) trivial rfl rfl ?_
 refine St.val (v := (.bool (decide (a0.Kind = 3)))) (Yields.eq rfl rfl) trivial rfl rfl ?_
 refine St.nil ?_
 refine St.norm ?_
 refine St.cond_b rfl ?_ ?_
 ·intro q6
  replace q6 : a0.Kind = 3 := of_decide_eq_true q6
  replace hm := iT hm q6
  obtain ⟨o8, hm, ho9⟩ := jS hm
  refine St.cutI (fun a w => ∃ z7 : Unit, o8 = .inl z7 ∧ Has Try.f31.ntmps a [] ∧ Sat ⟨w0, fun b => m0 b ≠ none, F⟩ F [] w) ?_ ?_
  ·skip
   refine St.seq ?_
   refine St.region ?_
   refine St.val (v := (.int .i64 0)) (Yields.assign rfl) trivial rfl rfl ?_
   refine St.nil ?_
   refine St.norm ?_
   refine St.block ?_
   refine St.loopM hm (fun s11 a w => Has Try.f31.ntmps a [(1, .slice pA1 a1.length pc1), (5, .int .i64 ((s11 : Nat) : Int))] ∧ Sat ⟨w0, fun b => m0 b ≠ none, F⟩ F [] w) ?_ ?_
   ·skip
    intro a w ha hs
    exact ⟨ha.covers ⟨rfl, rfl, trivial⟩, (Among.of Among.none _ hs)⟩
   ·rintro s11 o12 co13 hm ho14 a w ⟨ha, hs⟩
    refine St.use (?_ : St _ _ _ _ _ _) ha hs
    clear ha hs a w
    refine St.seq ?_
    refine St.seq ?_
    refine St.region ?_
    refine St.val (v := (.int .i64 ((s11 : Nat) : Int))) (Yields.move rfl) trivial rfl rfl ?_
    refine St.val (v := (.slice pA1 a1.length pc1)) (Yields.move rfl) trivial rfl rfl ?_
    refine St.val (v := (.int .i64 ((a1.length : Nat) : Int))) (Yields.lenSlice tu26 rfl) trivial rfl rfl ?_
    refine St.val (v := (.bool (decide (((s11 : Nat) : Int) < ((a1.length : Nat) : Int))))) (Yields.lt rfl rfl) trivial rfl rfl ?_
    refine St.nil ?_
    refine St.norm ?_
    refine St.cond_b rfl ?_ ?_
    ·intro q15
     replace q15 : ((s11 : Nat) : Int) < ((a1.length : Nat) : Int) := of_decide_eq_true q15
     replace hm := iT hm q15
     refine St.skip ?_
     refine St.norm ?_
     obtain ⟨o17, hm, ho18⟩ := jS hm
     refine St.cutI (fun a w => ∃ z16 : Unit, o17 = .inl z16 ∧ Has Try.f31.ntmps a [(1, .slice pA1 a1.length pc1), (5, .int .i64 ((s11 : Nat) : Int))] ∧ Sat ⟨w0, fun b => m0 b ≠ none, F⟩ F [] w) ?_ ?_
     ·skip
      refine St.block ?_
      refine St.seq ?_
      refine St.region ?_
      refine St.val (v := (.int .i64 0)) (Yields.assign rfl) trivial rfl rfl ?_
      refine St.nil ?_
      refine St.norm ?_
      refine St.block ?_
      refine St.loopM hm (fun s20 a w => Has Try.f31.ntmps a [(1, .slice pA1 a1.length pc1), (5, .int .i64 ((s11 : Nat) : Int)), (6, .int .i64 ((s20 : Nat) : Int))] ∧ Sat ⟨w0, fun b => m0 b ≠ none, F⟩ F [] w) ?_ ?_
      ·skip
       intro a w ha hs
       exact ⟨ha.covers ⟨rfl, rfl, rfl, trivial⟩, (Among.of Among.none _ hs)⟩
      ·rintro s20 o21 co22 hm ho23 a w ⟨ha, hs⟩
       refine St.use (?_ : St _ _ _ _ _ _) ha hs
       clear ha hs a w
       refine St.seq ?_
       refine St.seq ?_
       refine St.region ?_
       refine St.val (v := (.int .i64 ((s20 : Nat) : Int))) (Yields.move rfl) trivial rfl rfl ?_
       refine St.val (v := (.int .i64 ((s11 : Nat) : Int))) (Yields.move rfl) trivial rfl rfl ?_
       refine St.val (v := (.bool (decide (((s20 : Nat) : Int) < ((s11 : Nat) : Int))))) (Yields.lt rfl rfl) trivial rfl rfl ?_
       refine St.nil ?_
       refine St.norm ?_
       refine St.cond_b rfl ?_ ?_
       ·intro q24
        replace q24 : ((s20 : Nat) : Int) < ((s11 : Nat) : Int) := of_decide_eq_true q24
        replace hm := iT hm q24
        refine St.skip ?_
        refine St.norm ?_
        refine St.seq ?_
        refine St.block ?_
        refine St.seq ?_
        refine StD.start [] [] hmix ?_
        refine StD.takeP (i := 0) (v := (.slice pA1 a1.length pc1)) rfl (fun _ => Yields.move rfl) rfl rfl trivial (by rintro _ _ _ ⟨_, _, _, _, h, _⟩; cases h) (by kernel_rfl) (listed' := #[true, false, false, false, false, false, false, false, false]) rfl ?_
        refine StD.takeP (i := 1) (v := (.int .i64 ((s11 : Nat) : Int))) rfl (fun _ => Yields.move rfl) rfl rfl trivial (by rintro _ _ _ ⟨_, _, _, _, h, _⟩; cases h) (by kernel_rfl) (listed' := #[true, true, false, false, false, false, false, false, false]) rfl ?_
        obtain ⟨x25, e26, hm⟩ := bS hm
        obtain ⟨p27, cs28, jx29, R30, k31⟩ := ph1.nidx e26
        obtain rfl := R30
        refine StD.takeP (i := 2) (v := (.pointer (some p27))) rfl (fun _ => Yields.idx jx29 ts26 rfl rfl) rfl rfl trivial (by rintro _ _ _ ⟨_, _, _, _, h, _⟩; cases h) (by kernel_rfl) (listed' := #[true, true, true, false, false, false, false, false, false]) rfl ?_
        refine StD.take [0, 1, 2, 4, 5, 6, 8] (i := 3) (v := (.int .i64 x25)) rfl (Yields.load rfl (Loads.Fat k31 tc3 rfl)) rfl rfl trivial Among.refl (by rintro _ _ _ ⟨_, _, _, _, h, _⟩; cases h) (by kernel_rfl) (listed' := #[true, true, true, true, false, false, false, false, false]) rfl ?_
        refine StD.takeP (i := 4) (v := (.slice pA1 a1.length pc1)) rfl (fun _ => Yields.move rfl) rfl rfl trivial (by rintro _ _ _ ⟨_, _, _, _, h, _⟩; cases h) (by kernel_rfl) (listed' := #[true, true, true, true, true, false, false, false, false]) rfl ?_
        refine StD.takeP (i := 5) (v := (.int .i64 ((s20 : Nat) : Int))) rfl (fun _ => Yields.move rfl) rfl rfl trivial (by rintro _ _ _ ⟨_, _, _, _, h, _⟩; cases h) (by kernel_rfl) (listed' := #[true, true, true, true, true, true, false, false, false]) rfl ?_
        obtain ⟨x32, e33, hm⟩ := bS hm
        obtain ⟨p34, cs35, jx36, R37, k38⟩ := ph1.nidx e33
        obtain rfl := R37
        refine StD.takeP (i := 6) (v := (.pointer (some p34))) rfl (fun _ => Yields.idx jx36 ts26 rfl rfl) rfl rfl trivial (by rintro _ _ _ ⟨_, _, _, _, h, _⟩; cases h) (by kernel_rfl) (listed' := #[true, true, true, true, true, true, true, false, false]) rfl ?_
        refine StD.take [0, 1, 2, 4, 5, 6, 8] (i := 7) (v := (.int .i64 x32)) rfl (Yields.load rfl (Loads.Fat k38 tc3 rfl)) rfl rfl trivial Among.refl (by rintro _ _ _ ⟨_, _, _, _, h, _⟩; cases h) (by kernel_rfl) (listed' := #[true, true, true, true, true, true, true, true, false]) rfl ?_
        refine StD.takeP (i := 8) (v := (.bool (decide (x25 = x32)))) rfl (fun _ => Yields.eq rfl rfl) rfl rfl trivial (by rintro _ _ _ ⟨_, _, _, _, h, _⟩; cases h) (by kernel_rfl) (listed' := #[true, true, true, true, true, true, true, true, true]) rfl ?_
        refine StD.done (by kernel_rfl) ?_
        refine St.norm ?_
        refine St.cond_b rfl ?_ ?_
        ·intro q39
         replace q39 : x25 = x32 := of_decide_eq_true q39
         replace hm := iT hm q39
         refine St.seq ?_
         refine St.region ?_
         refine St.val (v := (.bool false)) (Yields.assign rfl) trivial rfl rfl ?_
         refine St.nil ?_
         refine St.norm ?_
         refine St.ret ?_
         refine St.inret ?_
         refine St.thenret ?_
         refine St.thenret ?_
         refine St.inret ?_
         refine St.inret ?_
         refine St.thenret ?_
         refine St.thenret ?_
         refine St.inret ?_
         refine St.thenret ?_
         refine St.thenret ?_
         obtain rfl := sI hm
         obtain rfl := aR ho23
         obtain rfl := aR ho18
         obtain rfl := aR ho14
         obtain rfl := aR ho9
         exact St.doneR1 rfl rfl ⟨rfl, rfl⟩ (fun w hs => Among.of Among.none w hs)
        ·intro q40
         replace q40 : ¬ (x25 = x32) := of_decide_eq_false q40
         replace hm := iF hm q40
         refine St.skip ?_
         refine St.innorm ?_
         refine St.norm ?_
         refine St.region ?_
         refine St.val (v := (.int .i64 ((s20 : Nat) : Int))) (Yields.move rfl) trivial rfl rfl ?_
         refine St.val (v := (.int .i64 ((s20 + 1 : Nat) : Int))) (Yields.addn (j := 1) rfl rfl rfl (by have q_0 := q24; have q_1 := q15; have q_2 := ph1.bnd.2; omega)) trivial rfl rfl ?_
         refine St.val (v := (.int .i64 ((s20 + 1 : Nat) : Int))) (Yields.assign rfl) trivial rfl rfl ?_
         refine St.nil ?_
         refine St.norm ?_
         obtain rfl := sI hm
         intro a w ha hs
         exact ⟨s20 + 1, aL ho23, ha.covers ⟨rfl, rfl, rfl, trivial⟩, (Among.of Among.none _ hs)⟩
       ·intro q41
        replace q41 : ¬ (((s20 : Nat) : Int) < ((s11 : Nat) : Int)) := of_decide_eq_false q41
        replace hm := iF hm q41
        refine St.exit ?_
        refine St.thenexit ?_
        refine St.thenexit ?_
        refine St.inexit ?_
        refine St.innorm ?_
        obtain rfl := sI hm
        obtain rfl := aR ho23
        intro a w ha hs
        exact ⟨(), rfl, ha.covers ⟨rfl, rfl, trivial⟩, (Among.of Among.none _ hs)⟩
     ·rintro a w ⟨z16, rfl, ha, hs⟩
      replace hm := aL ho18
      refine St.use (?_ : St _ _ _ _ _ _) ha hs
      clear ha hs a w
      refine St.region ?_
      refine St.val (v := (.int .i64 ((s11 : Nat) : Int))) (Yields.move rfl) trivial rfl rfl ?_
      refine St.val (v := (.int .i64 ((s11 + 1 : Nat) : Int))) (Yields.addn (j := 1) rfl rfl rfl (by have q_0 := q15; have q_1 := ph1.bnd.2; omega)) trivial rfl rfl ?_
      refine St.val (v := (.int .i64 ((s11 + 1 : Nat) : Int))) (Yields.assign rfl) trivial rfl rfl ?_
      refine St.nil ?_
      refine St.norm ?_
      obtain rfl := sI hm
      intro a w ha hs
      exact ⟨s11 + 1, aL ho14, ha.covers ⟨rfl, rfl, trivial⟩, (Among.of Among.none _ hs)⟩
    ·intro q42
     replace q42 : ¬ (((s11 : Nat) : Int) < ((a1.length : Nat) : Int)) := of_decide_eq_false q42
     replace hm := iF hm q42
     refine St.exit ?_
     refine St.thenexit ?_
     refine St.thenexit ?_
     refine St.inexit ?_
     obtain rfl := sI hm
     obtain rfl := aR ho14
     intro a w ha hs
     exact ⟨(), rfl, ha.covers trivial, (Among.of Among.none _ hs)⟩
  ·rintro a w ⟨z7, rfl, ha, hs⟩
   replace hm := aL ho9
   refine St.use (?_ : St _ _ _ _ _ _) ha hs
   clear ha hs a w
   refine St.seq ?_
   refine St.region ?_
   refine St.val (v := (.bool true)) (Yields.assign rfl) trivial rfl rfl ?_
   refine St.nil ?_
   refine St.norm ?_
   refine St.ret ?_
   refine St.thenret ?_
   obtain rfl := sI hm
   exact St.doneR1 rfl rfl ⟨rfl, rfl⟩ (fun w hs => Among.of Among.none w hs)
 ·intro q43
  replace q43 : ¬ (a0.Kind = 3) := of_decide_eq_false q43
  replace hm := iF hm q43
  refine St.skip ?_
  refine St.norm ?_
  refine St.seq ?_
  refine St.seq ?_
  refine St.region ?_
  refine St.val (v := (.pointer (some ⟨b5, 0, none⟩))) (Yields.fieldAddr (v := (.pointer (some ⟨b5, 0, none⟩))) rfl (fun _ => by kernel_rfl)) trivial rfl rfl ?_
  refine St.val (v := (.int .i64 a0.Kind)) (Yields.load rfl (Loads.H1 0 rfl tc3 rfl)) trivial rfl rfl ?_
  refine St.val (v := (.bool (decide (a0.Kind = 4)))) (Yields.eq rfl rfl) trivial rfl rfl ?_
  refine St.nil ?_
  refine St.norm ?_
  refine St.cond_b rfl ?_ ?_
  ·intro q44
   replace q44 : a0.Kind = 4 := of_decide_eq_true q44
   replace hm := iT hm q44
   obtain ⟨o46, hm, ho47⟩ := jS hm
   refine St.cutI (fun a w => ∃ z45 : Unit, o46 = .inl z45 ∧ Has Try.f31.ntmps a [] ∧ Sat ⟨w0, fun b => m0 b ≠ none, F⟩ F [] w) ?_ ?_
   ·skip
    refine St.seq ?_
    refine St.region ?_
    refine St.val (v := (.int .i64 0)) (Yields.assign rfl) trivial rfl rfl ?_
    refine St.nil ?_
    refine St.norm ?_
    refine St.block ?_
    refine St.loopM hm (fun s49 a w => Has Try.f31.ntmps a [(1, .slice pA1 a1.length pc1), (2, .pointer (some ⟨b5, 0, none⟩)), (7, .int .i64 ((s49 : Nat) : Int))] ∧ Sat ⟨w0, fun b => m0 b ≠ none, F⟩ F [blk b5 (.cells #[.int .i64 a0.Kind, .slice pA0_0 a0.Vars.length pc0_0, .slice pA0_1 a0.A.length pc0_1, .int .i64 a0.B, .slice pA0_2 a0.Rows.length pc0_2] 28 (0, 0))] w) ?_ ?_
    ·skip
     intro a w ha hs
     exact ⟨ha.covers ⟨rfl, rfl, rfl, trivial⟩, (Among.of (Among.take 0 rfl rfl Among.none) _ hs)⟩
    ·rintro s49 o50 co51 hm ho52 a w ⟨ha, hs⟩
     refine St.use (?_ : St _ _ _ _ _ _) ha hs
     clear ha hs a w
     refine St.seq ?_
     refine St.seq ?_
     refine St.region ?_
     refine St.val (v := (.int .i64 ((s49 : Nat) : Int))) (Yields.move rfl) trivial rfl rfl ?_
     refine St.val (v := (.pointer (some ⟨b5, 4, none⟩))) (Yields.fieldAddr (v := (.pointer (some ⟨b5, 4, none⟩))) rfl (fun _ => by kernel_rfl)) trivial rfl rfl ?_
     refine St.val (v := (.slice pA0_2 a0.Rows.length pc0_2)) (Yields.load rfl (Loads.H1 0 rfl tc22 rfl)) trivial rfl rfl ?_
     refine St.val (v := (.int .i64 ((a0.Rows.length : Nat) : Int))) (Yields.lenSlice tu22 rfl) trivial rfl rfl ?_
     refine St.val (v := (.bool (decide (((s49 : Nat) : Int) < ((a0.Rows.length : Nat) : Int))))) (Yields.lt rfl rfl) trivial rfl rfl ?_
     refine St.nil ?_
     refine St.norm ?_
     refine St.cond_b rfl ?_ ?_
     ·intro q53
      replace q53 : ((s49 : Nat) : Int) < ((a0.Rows.length : Nat) : Int) := of_decide_eq_true q53
      replace hm := iT hm q53
      refine St.skip ?_
      refine St.norm ?_
      refine St.seq ?_
      refine St.block ?_
      refine St.seq ?_
      refine St.region ?_
      refine St.val (v := (.bool true)) (Yields.assign rfl) trivial rfl rfl ?_
      refine St.nil ?_
      refine St.norm ?_
      obtain ⟨z54, hm, hk55⟩ := bS hm
      refine St.cutI (fun a w => Has Try.f31.ntmps a [(1, .slice pA1 a1.length pc1), (2, .pointer (some ⟨b5, 0, none⟩)), (7, .int .i64 ((s49 : Nat) : Int)), (8, .bool z54)] ∧ Sat ⟨w0, fun b => m0 b ≠ none, F⟩ F [blk b5 (.cells #[.int .i64 a0.Kind, .slice pA0_0 a0.Vars.length pc0_0, .slice pA0_1 a0.A.length pc0_1, .int .i64 a0.B, .slice pA0_2 a0.Rows.length pc0_2] 28 (0, 0))] w) ?_ ?_
      ·skip
       refine St.seq ?_
       refine St.region ?_
       refine St.val (v := (.int .i64 0)) (Yields.assign rfl) trivial rfl rfl ?_
       refine St.nil ?_
       refine St.norm ?_
       refine St.block ?_
       refine St.loopM hm (fun s58 a w => Has Try.f31.ntmps a [(1, .slice pA1 a1.length pc1), (2, .pointer (some ⟨b5, 0, none⟩)), (7, .int .i64 ((s49 : Nat) : Int)), (8, .bool s58.1), (9, .int .i64 ((s58.2 : Nat) : Int))] ∧ Sat ⟨w0, fun b => m0 b ≠ none, F⟩ F [blk b5 (.cells #[.int .i64 a0.Kind, .slice pA0_0 a0.Vars.length pc0_0, .slice pA0_1 a0.A.length pc0_1, .int .i64 a0.B, .slice pA0_2 a0.Rows.length pc0_2] 28 (0, 0))] w) ?_ ?_
       ·skip
        intro a w ha hs
        exact ⟨ha.covers ⟨rfl, rfl, rfl, rfl, rfl, trivial⟩, (Among.of (Among.take 0 rfl rfl Among.none) _ hs)⟩
       ·rintro s58 o59 co60 hm ho61 a w ⟨ha, hs⟩
        refine St.use (?_ : St _ _ _ _ _ _) ha hs
        clear ha hs a w
        refine St.seq ?_
        refine St.seq ?_
        refine St.region ?_
        refine St.val (v := (.int .i64 ((s58.2 : Nat) : Int))) (Yields.move rfl) trivial rfl rfl ?_
        refine St.val (v := (.slice pA1 a1.length pc1)) (Yields.move rfl) trivial rfl rfl ?_
        refine St.val (v := (.int .i64 ((a1.length : Nat) : Int))) (Yields.lenSlice tu26 rfl) trivial rfl rfl ?_
        refine St.val (v := (.bool (decide (((s58.2 : Nat) : Int) < ((a1.length : Nat) : Int))))) (Yields.lt rfl rfl) trivial rfl rfl ?_
        refine St.nil ?_
        refine St.norm ?_
        refine St.cond_b rfl ?_ ?_
        ·intro q62
         replace q62 : ((s58.2 : Nat) : Int) < ((a1.length : Nat) : Int) := of_decide_eq_true q62
         replace hm := iT hm q62
         refine St.skip ?_
         refine St.norm ?_
         obtain ⟨z63, hm, hk64⟩ := bS hm
         refine St.cutI (fun a w => Has Try.f31.ntmps a [(1, .slice pA1 a1.length pc1), (2, .pointer (some ⟨b5, 0, none⟩)), (7, .int .i64 ((s49 : Nat) : Int)), (8, .bool z63), (9, .int .i64 ((s58.2 : Nat) : Int))] ∧ Sat ⟨w0, fun b => m0 b ≠ none, F⟩ F [blk b5 (.cells #[.int .i64 a0.Kind, .slice pA0_0 a0.Vars.length pc0_0, .slice pA0_1 a0.A.length pc0_1, .int .i64 a0.B, .slice pA0_2 a0.Rows.length pc0_2] 28 (0, 0))] w) ?_ ?_
         ·skip
          refine St.block ?_
          refine St.seq ?_
          refine StD.start [] [blk b5 (.cells #[.int .i64 a0.Kind, .slice pA0_0 a0.Vars.length pc0_0, .slice pA0_1 a0.A.length pc0_1, .int .i64 a0.B, .slice pA0_2 a0.Rows.length pc0_2] 28 (0, 0))] hmix ?_
          refine StD.takeP (i := 0) (v := (.pointer (some ⟨b5, 4, none⟩))) rfl (fun _ => Yields.fieldAddr (v := (.pointer (some ⟨b5, 4, none⟩))) rfl (fun _ => by kernel_rfl)) rfl rfl trivial (by rintro _ _ _ ⟨_, _, _, _, h, _⟩; cases h) (by kernel_rfl) (listed' := #[true, false, false, false, false, false, false, false, false, false, false, false, false]) rfl ?_
          refine StD.take [0, 2, 3, 5, 6, 8, 9, 10, 12] (i := 1) (v := (.slice pA0_2 a0.Rows.length pc0_2)) rfl (Yields.load rfl (Loads.H1 0 rfl tc22 rfl)) rfl rfl trivial Among.refl (by rintro _ _ _ ⟨_, _, _, _, h, _⟩; cases h) (by kernel_rfl) (listed' := #[true, true, false, false, false, false, false, false, false, false, false, false, false]) rfl ?_
          refine StD.takeP (i := 2) (v := (.int .i64 ((s49 : Nat) : Int))) rfl (fun _ => Yields.move rfl) rfl rfl trivial (by rintro _ _ _ ⟨_, _, _, _, h, _⟩; cases h) (by kernel_rfl) (listed' := #[true, true, true, false, false, false, false, false, false, false, false, false, false]) rfl ?_
          obtain ⟨x65, e66, hm⟩ := bS hm
          obtain ⟨p67, cs68, jx69, R70, k71⟩ := ph0_2.nidx e66
          obtain ⟨A72, c73, rfl, h74⟩ := R70
          refine StD.takeP (i := 3) (v := (.pointer (some p67))) rfl (fun _ => Yields.idx jx69 ts22 rfl rfl) rfl rfl trivial (by rintro _ _ _ ⟨_, _, _, _, h, _⟩; cases h) (by kernel_rfl) (listed' := #[true, true, true, true, false, false, false, false, false, false, false, false, false]) rfl ?_
          refine StD.take [0, 2, 3, 5, 6, 8, 9, 10, 12] (i := 4) (v := (.slice A72 x65.length c73)) rfl (Yields.load rfl (Loads.Fat k71 tc26 rfl)) rfl rfl trivial Among.refl (by rintro _ _ _ ⟨_, _, _, _, h, _⟩; cases h) (by kernel_rfl) (listed' := #[true, true, true, true, true, false, false, false, false, false, false, false, false]) rfl ?_
          refine StD.takeP (i := 5) (v := (.int .i64 ((s58.2 : Nat) : Int))) rfl (fun _ => Yields.move rfl) rfl rfl trivial (by rintro _ _ _ ⟨_, _, _, _, h, _⟩; cases h) (by kernel_rfl) (listed' := #[true, true, true, true, true, true, false, false, false, false, false, false, false]) rfl ?_
          obtain ⟨x76, e77, hm⟩ := bS hm
          obtain ⟨p78, cs79, jx80, R81, k82⟩ := h74.nidx e77
          obtain rfl := R81
          refine StD.takeP (i := 6) (v := (.pointer (some p78))) rfl (fun _ => Yields.idx jx80 ts26 rfl rfl) rfl rfl trivial (by rintro _ _ _ ⟨_, _, _, _, h, _⟩; cases h) (by kernel_rfl) (listed' := #[true, true, true, true, true, true, true, false, false, false, false, false, false]) rfl ?_
          refine StD.take [0, 2, 3, 5, 6, 8, 9, 10, 12] (i := 7) (v := (.int .i64 x76)) rfl (Yields.load rfl (Loads.Fat k82 tc3 rfl)) rfl rfl trivial Among.refl (by rintro _ _ _ ⟨_, _, _, _, h, _⟩; cases h) (by kernel_rfl) (listed' := #[true, true, true, true, true, true, true, true, false, false, false, false, false]) rfl ?_
          refine StD.takeP (i := 8) (v := (.slice pA1 a1.length pc1)) rfl (fun _ => Yields.move rfl) rfl rfl trivial (by rintro _ _ _ ⟨_, _, _, _, h, _⟩; cases h) (by kernel_rfl) (listed' := #[true, true, true, true, true, true, true, true, true, false, false, false, false]) rfl ?_
          refine StD.takeP (i := 9) (v := (.int .i64 ((s58.2 : Nat) : Int))) rfl (fun _ => Yields.move rfl) rfl rfl trivial (by rintro _ _ _ ⟨_, _, _, _, h, _⟩; cases h) (by kernel_rfl) (listed' := #[true, true, true, true, true, true, true, true, true, true, false, false, false]) rfl ?_
          obtain ⟨x83, e84, hm⟩ := bS hm
          obtain ⟨p85, cs86, jx87, R88, k89⟩ := ph1.nidx e84
          obtain rfl := R88
          refine StD.takeP (i := 10) (v := (.pointer (some p85))) rfl (fun _ => Yields.idx jx87 ts26 rfl rfl) rfl rfl trivial (by rintro _ _ _ ⟨_, _, _, _, h, _⟩; cases h) (by kernel_rfl) (listed' := #[true, true, true, true, true, true, true, true, true, true, true, false, false]) rfl ?_
          refine StD.take [0, 2, 3, 5, 6, 8, 9, 10, 12] (i := 11) (v := (.int .i64 x83)) rfl (Yields.load rfl (Loads.Fat k89 tc3 rfl)) rfl rfl trivial Among.refl (by rintro _ _ _ ⟨_, _, _, _, h, _⟩; cases h) (by kernel_rfl) (listed' := #[true, true, true, true, true, true, true, true, true, true, true, true, false]) rfl ?_
          refine StD.takeP (i := 12) (v := (.bool (!decide (x76 = x83)))) rfl (fun _ => Yields.ne rfl rfl) rfl rfl trivial (by rintro _ _ _ ⟨_, _, _, _, h, _⟩; cases h) (by kernel_rfl) (listed' := #[true, true, true, true, true, true, true, true, true, true, true, true, true]) rfl ?_
          refine StD.done (by kernel_rfl) ?_
          refine St.norm ?_
          refine St.cond_b rfl ?_ ?_
          ·intro q90
           replace q90 : ¬ (x76 = x83) := nd_t q90
           replace hm := iF hm q90
           refine St.region ?_
           refine St.val (v := (.bool false)) (Yields.assign rfl) trivial rfl rfl ?_
           refine St.nil ?_
           refine St.innorm ?_
           obtain rfl := sI hm
           intro a w ha hs
           exact ⟨ha.covers ⟨rfl, rfl, rfl, rfl, rfl, trivial⟩, (Among.of (Among.take 0 rfl rfl Among.none) _ hs)⟩
          ·intro q91
           replace q91 : x76 = x83 := nd_f q91
           replace hm := iT hm q91
           refine St.skip ?_
           refine St.innorm ?_
           obtain rfl := sI hm
           intro a w ha hs
           exact ⟨ha.covers ⟨rfl, rfl, rfl, rfl, rfl, trivial⟩, (Among.of (Among.take 0 rfl rfl Among.none) _ hs)⟩
         ·rintro a w ⟨ha, hs⟩
          replace hm := hk64
          refine St.use (?_ : St _ _ _ _ _ _) ha hs
          clear ha hs a w
          refine St.region ?_
          refine St.val (v := (.int .i64 ((s58.2 : Nat) : Int))) (Yields.move rfl) trivial rfl rfl ?_
          refine St.val (v := (.int .i64 ((s58.2 + 1 : Nat) : Int))) (Yields.addn (j := 1) rfl rfl rfl (by have q_0 := q62; have q_1 := ph1.bnd.2; omega)) trivial rfl rfl ?_
          refine St.val (v := (.int .i64 ((s58.2 + 1 : Nat) : Int))) (Yields.assign rfl) trivial rfl rfl ?_
          refine St.nil ?_
          refine St.norm ?_
          obtain rfl := sI hm
          intro a w ha hs
          exact ⟨(z63, s58.2 + 1), aL ho61, ha.covers ⟨rfl, rfl, rfl, rfl, rfl, trivial⟩, (Among.of (Among.take 0 rfl rfl Among.none) _ hs)⟩
        ·intro q92
         replace q92 : ¬ (((s58.2 : Nat) : Int) < ((a1.length : Nat) : Int)) := of_decide_eq_false q92
         replace hm := iF hm q92
         refine St.exit ?_
         refine St.thenexit ?_
         refine St.thenexit ?_
         refine St.inexit ?_
         obtain rfl := sI hm
         obtain rfl := aR ho61
         intro a w ha hs
         exact ⟨ha.covers ⟨rfl, rfl, rfl, rfl, trivial⟩, (Among.of (Among.take 0 rfl rfl Among.none) _ hs)⟩
      ·rintro a w ⟨ha, hs⟩
       replace hm := hk55
       refine St.use (?_ : St _ _ _ _ _ _) ha hs
       clear ha hs a w
       refine St.seq ?_
       refine St.region ?_
       refine St.val (v := (.bool z54)) (Yields.move rfl) trivial rfl rfl ?_
       refine St.nil ?_
       refine St.norm ?_
       refine St.cond_b rfl ?_ ?_
       ·intro q93
        replace q93 : z54 = true := q93
        replace hm := iT hm q93
        refine St.seq ?_
        refine St.region ?_
        refine St.val (v := (.bool true)) (Yields.assign rfl) trivial rfl rfl ?_
        refine St.nil ?_
        refine St.norm ?_
        refine St.ret ?_
        refine St.inret ?_
        refine St.thenret ?_
        refine St.thenret ?_
        refine St.inret ?_
        refine St.thenret ?_
        refine St.thenret ?_
        obtain rfl := sI hm
        obtain rfl := aR ho52
        obtain rfl := aR ho47
        exact St.doneR1 rfl rfl ⟨rfl, rfl⟩ (fun w hs => Among.of Among.none w hs)
       ·intro q94
        replace q94 : ¬ (z54 = true) := bf q94
        replace hm := iF hm q94
        refine St.skip ?_
        refine St.innorm ?_
        refine St.norm ?_
        refine St.region ?_
        refine St.val (v := (.int .i64 ((s49 : Nat) : Int))) (Yields.move rfl) trivial rfl rfl ?_
        refine St.val (v := (.int .i64 ((s49 + 1 : Nat) : Int))) (Yields.addn (j := 1) rfl rfl rfl (by have q_0 := q53; have q_1 := ph0_2.bnd.2; omega)) trivial rfl rfl ?_
        refine St.val (v := (.int .i64 ((s49 + 1 : Nat) : Int))) (Yields.assign rfl) trivial rfl rfl ?_
        refine St.nil ?_
        refine St.norm ?_
        obtain rfl := sI hm
        intro a w ha hs
        exact ⟨s49 + 1, aL ho52, ha.covers ⟨rfl, rfl, rfl, trivial⟩, (Among.of (Among.take 0 rfl rfl Among.none) _ hs)⟩
     ·intro q95
      replace q95 : ¬ (((s49 : Nat) : Int) < ((a0.Rows.length : Nat) : Int)) := of_decide_eq_false q95
      replace hm := iF hm q95
      refine St.exit ?_
      refine St.thenexit ?_
      refine St.thenexit ?_
      refine St.inexit ?_
      obtain rfl := sI hm
      obtain rfl := aR ho52
      intro a w ha hs
      exact ⟨(), rfl, ha.covers trivial, (Among.of Among.none _ hs)⟩
   ·rintro a w ⟨z45, rfl, ha, hs⟩
    replace hm := aL ho47
    refine St.use (?_ : St _ _ _ _ _ _) ha hs
    clear ha hs a w
    refine St.seq ?_
    refine St.region ?_
    refine St.val (v := (.bool false)) (Yields.assign rfl) trivial rfl rfl ?_
    refine St.nil ?_
    refine St.norm ?_
    refine St.ret ?_
    refine St.thenret ?_
    obtain rfl := sI hm
    exact St.doneR1 rfl rfl ⟨rfl, rfl⟩ (fun w hs => Among.of Among.none w hs)
  ·intro q96
   replace q96 : ¬ (a0.Kind = 4) := of_decide_eq_false q96
   replace hm := iF hm q96
   refine St.skip ?_
   refine St.norm ?_
   refine St.seq ?_
   refine St.region ?_
   refine St.val (v := (.int .i64 0)) (Yields.assign rfl) trivial rfl rfl ?_
   refine St.nil ?_
   refine St.norm ?_
   obtain ⟨z97, hm, hk98⟩ := bS hm
   refine St.cutI (fun a w => Has Try.f31.ntmps a [(2, .pointer (some ⟨b5, 0, none⟩)), (10, .int .i64 z97)] ∧ Sat ⟨w0, fun b => m0 b ≠ none, F⟩ F [blk b5 (.cells #[.int .i64 a0.Kind, .slice pA0_0 a0.Vars.length pc0_0, .slice pA0_1 a0.A.length pc0_1, .int .i64 a0.B, .slice pA0_2 a0.Rows.length pc0_2] 28 (0, 0))] w) ?_ ?_
   ·skip
    refine St.seq ?_
    refine St.region ?_
    refine St.val (v := (.int .i64 0)) (Yields.assign rfl) trivial rfl rfl ?_
    refine St.nil ?_
    refine St.norm ?_
    refine St.block ?_
    refine St.loopM hm (fun s101 a w => Has Try.f31.ntmps a [(1, .slice pA1 a1.length pc1), (2, .pointer (some ⟨b5, 0, none⟩)), (10, .int .i64 s101.1), (11, .int .i64 ((s101.2 : Nat) : Int))] ∧ Sat ⟨w0, fun b => m0 b ≠ none, F⟩ F [blk b5 (.cells #[.int .i64 a0.Kind, .slice pA0_0 a0.Vars.length pc0_0, .slice pA0_1 a0.A.length pc0_1, .int .i64 a0.B, .slice pA0_2 a0.Rows.length pc0_2] 28 (0, 0))] w) ?_ ?_
    ·skip
     intro a w ha hs
     exact ⟨ha.covers ⟨rfl, rfl, rfl, rfl, trivial⟩, (Among.of (Among.take 0 rfl rfl Among.none) _ hs)⟩
    ·rintro s101 o102 co103 hm ho104 a w ⟨ha, hs⟩
     refine St.use (?_ : St _ _ _ _ _ _) ha hs
     clear ha hs a w
     refine St.seq ?_
     refine St.seq ?_
     refine St.region ?_
     refine St.val (v := (.int .i64 ((s101.2 : Nat) : Int))) (Yields.move rfl) trivial rfl rfl ?_
     refine St.val (v := (.slice pA1 a1.length pc1)) (Yields.move rfl) trivial rfl rfl ?_
     refine St.val (v := (.int .i64 ((a1.length : Nat) : Int))) (Yields.lenSlice tu26 rfl) trivial rfl rfl ?_
     refine St.val (v := (.bool (decide (((s101.2 : Nat) : Int) < ((a1.length : Nat) : Int))))) (Yields.lt rfl rfl) trivial rfl rfl ?_
     refine St.nil ?_
     refine St.norm ?_
     refine St.cond_b rfl ?_ ?_
     ·intro q105
      replace q105 : ((s101.2 : Nat) : Int) < ((a1.length : Nat) : Int) := of_decide_eq_true q105
      replace hm := iT hm q105
      refine St.skip ?_
      refine St.norm ?_
      refine St.seq ?_
      refine St.block ?_
      refine StD.start [] [blk b5 (.cells #[.int .i64 a0.Kind, .slice pA0_0 a0.Vars.length pc0_0, .slice pA0_1 a0.A.length pc0_1, .int .i64 a0.B, .slice pA0_2 a0.Rows.length pc0_2] 28 (0, 0))] hmix ?_
      refine StD.takeP (i := 0) (v := (.int .i64 s101.1)) rfl (fun _ => Yields.move rfl) rfl rfl trivial (by rintro _ _ _ ⟨_, _, _, _, h, _⟩; cases h) (by kernel_rfl) (listed' := #[true, false, false, false, false, false, false, false, false, false, false, false, false]) rfl ?_
      refine StD.takeP (i := 1) (v := (.pointer (some ⟨b5, 2, none⟩))) rfl (fun _ => Yields.fieldAddr (v := (.pointer (some ⟨b5, 2, none⟩))) rfl (fun _ => by kernel_rfl)) rfl rfl trivial (by rintro _ _ _ ⟨_, _, _, _, h, _⟩; cases h) (by kernel_rfl) (listed' := #[true, true, false, false, false, false, false, false, false, false, false, false, false]) rfl ?_
      refine StD.take [0, 1, 3, 4, 6, 7, 8, 10, 11, 12] (i := 2) (v := (.slice pA0_1 a0.A.length pc0_1)) rfl (Yields.load rfl (Loads.H1 0 rfl tc26 rfl)) rfl rfl trivial Among.refl (by rintro _ _ _ ⟨_, _, _, _, h, _⟩; cases h) (by kernel_rfl) (listed' := #[true, true, true, false, false, false, false, false, false, false, false, false, false]) rfl ?_
      refine StD.takeP (i := 3) (v := (.int .i64 ((s101.2 : Nat) : Int))) rfl (fun _ => Yields.move rfl) rfl rfl trivial (by rintro _ _ _ ⟨_, _, _, _, h, _⟩; cases h) (by kernel_rfl) (listed' := #[true, true, true, true, false, false, false, false, false, false, false, false, false]) rfl ?_
      obtain ⟨x106, e107, hm⟩ := bS hm
      obtain ⟨p108, cs109, jx110, R111, k112⟩ := ph0_1.nidx e107
      obtain rfl := R111
      refine StD.takeP (i := 4) (v := (.pointer (some p108))) rfl (fun _ => Yields.idx jx110 ts26 rfl rfl) rfl rfl trivial (by rintro _ _ _ ⟨_, _, _, _, h, _⟩; cases h) (by kernel_rfl) (listed' := #[true, true, true, true, true, false, false, false, false, false, false, false, false]) rfl ?_
      refine StD.take [0, 1, 3, 4, 6, 7, 8, 10, 11, 12] (i := 5) (v := (.int .i64 x106)) rfl (Yields.load rfl (Loads.Fat k112 tc3 rfl)) rfl rfl trivial Among.refl (by rintro _ _ _ ⟨_, _, _, _, h, _⟩; cases h) (by kernel_rfl) (listed' := #[true, true, true, true, true, true, false, false, false, false, false, false, false]) rfl ?_
      refine StD.takeP (i := 6) (v := (.slice pA1 a1.length pc1)) rfl (fun _ => Yields.move rfl) rfl rfl trivial (by rintro _ _ _ ⟨_, _, _, _, h, _⟩; cases h) (by kernel_rfl) (listed' := #[true, true, true, true, true, true, true, false, false, false, false, false, false]) rfl ?_
      refine StD.takeP (i := 7) (v := (.int .i64 ((s101.2 : Nat) : Int))) rfl (fun _ => Yields.move rfl) rfl rfl trivial (by rintro _ _ _ ⟨_, _, _, _, h, _⟩; cases h) (by kernel_rfl) (listed' := #[true, true, true, true, true, true, true, true, false, false, false, false, false]) rfl ?_
      obtain ⟨x113, e114, hm⟩ := bS hm
      obtain ⟨p115, cs116, jx117, R118, k119⟩ := ph1.nidx e114
      obtain rfl := R118
      refine StD.takeP (i := 8) (v := (.pointer (some p115))) rfl (fun _ => Yields.idx jx117 ts26 rfl rfl) rfl rfl trivial (by rintro _ _ _ ⟨_, _, _, _, h, _⟩; cases h) (by kernel_rfl) (listed' := #[true, true, true, true, true, true, true, true, true, false, false, false, false]) rfl ?_
      refine StD.take [0, 1, 3, 4, 6, 7, 8, 10, 11, 12] (i := 9) (v := (.int .i64 x113)) rfl (Yields.load rfl (Loads.Fat k119 tc3 rfl)) rfl rfl trivial Among.refl (by rintro _ _ _ ⟨_, _, _, _, h, _⟩; cases h) (by kernel_rfl) (listed' := #[true, true, true, true, true, true, true, true, true, true, false, false, false]) rfl ?_
      refine StD.takeP (i := 10) (v := (.int .i64 (Mir.w64 (x106 * x113)))) rfl (fun _ => Yields.mulw rfl rfl) rfl rfl trivial (by rintro _ _ _ ⟨_, _, _, _, h, _⟩; cases h) (by kernel_rfl) (listed' := #[true, true, true, true, true, true, true, true, true, true, true, false, false]) rfl ?_
      refine StD.takeP (i := 11) (v := (.int .i64 (Mir.w64 (s101.1 + (Mir.w64 (x106 * x113)))))) rfl (fun _ => Yields.addw rfl rfl) rfl rfl trivial (by rintro _ _ _ ⟨_, _, _, _, h, _⟩; cases h) (by kernel_rfl) (listed' := #[true, true, true, true, true, true, true, true, true, true, true, true, false]) rfl ?_
      refine StD.takeP (i := 12) (v := (.int .i64 (Mir.w64 (s101.1 + (Mir.w64 (x106 * x113)))))) rfl (fun _ => Yields.assign rfl) rfl rfl trivial (by rintro _ _ _ ⟨_, _, _, _, h, _⟩; cases h) (by kernel_rfl) (listed' := #[true, true, true, true, true, true, true, true, true, true, true, true, true]) rfl ?_
      refine StD.done (by kernel_rfl) ?_
      refine St.innorm ?_
      refine St.norm ?_
      refine St.region ?_
      refine St.val (v := (.int .i64 ((s101.2 : Nat) : Int))) (Yields.move rfl) trivial rfl rfl ?_
      refine St.val (v := (.int .i64 ((s101.2 + 1 : Nat) : Int))) (Yields.addn (j := 1) rfl rfl rfl (by have q_0 := q105; have q_1 := ph1.bnd.2; omega)) trivial rfl rfl ?_
      refine St.val (v := (.int .i64 ((s101.2 + 1 : Nat) : Int))) (Yields.assign rfl) trivial rfl rfl ?_
      refine St.nil ?_
      refine St.norm ?_
      obtain rfl := sI hm
      intro a w ha hs
      exact ⟨(Mir.w64 (s101.1 + (Mir.w64 (x106 * x113))), s101.2 + 1), aL ho104, ha.covers ⟨rfl, rfl, rfl, rfl, trivial⟩, (Among.of (Among.take 0 rfl rfl Among.none) _ hs)⟩
     ·intro q120
      replace q120 : ¬ (((s101.2 : Nat) : Int) < ((a1.length : Nat) : Int)) := of_decide_eq_false q120
      replace hm := iF hm q120
      refine St.exit ?_
      refine St.thenexit ?_
      refine St.thenexit ?_
      refine St.inexit ?_
      obtain rfl := sI hm
      obtain rfl := aR ho104
      intro a w ha hs
      exact ⟨ha.covers ⟨rfl, rfl, trivial⟩, (Among.of (Among.take 0 rfl rfl Among.none) _ hs)⟩
   ·rintro a w ⟨ha, hs⟩
    replace hm := hk98
    refine St.use (?_ : St _ _ _ _ _ _) ha hs
    clear ha hs a w
    refine St.seq ?_
    refine St.seq ?_
    refine St.region ?_
    refine St.val (v := (.pointer (some ⟨b5, 0, none⟩))) (Yields.fieldAddr (v := (.pointer (some ⟨b5, 0, none⟩))) rfl (fun _ => by kernel_rfl)) trivial rfl rfl ?_
    refine St.val (v := (.int .i64 a0.Kind)) (Yields.load rfl (Loads.H1 0 rfl tc3 rfl)) trivial rfl rfl ?_
    refine St.val (v := (.bool (decide (a0.Kind = 0)))) (Yields.eq rfl rfl) trivial rfl rfl ?_
    refine St.nil ?_
    refine St.norm ?_
    refine St.cond_b rfl ?_ ?_
    ·intro q121
     replace q121 : a0.Kind = 0 := of_decide_eq_true q121
     replace hm := iT hm q121
     refine St.seq ?_
     refine St.region ?_
     refine St.val (v := (.int .i64 z97)) (Yields.move rfl) trivial rfl rfl ?_
     refine St.val (v := (.pointer (some ⟨b5, 3, none⟩))) (Yields.fieldAddr (v := (.pointer (some ⟨b5, 3, none⟩))) rfl (fun _ => by kernel_rfl)) trivial rfl rfl ?_
     refine St.val (v := (.int .i64 a0.B)) (Yields.load rfl (Loads.H1 0 rfl tc3 rfl)) trivial rfl rfl ?_
     refine St.val (v := (.bool (decide (z97 ≤ a0.B)))) (Yields.le rfl rfl) trivial rfl rfl ?_
     refine St.val (v := (.bool (decide (z97 ≤ a0.B)))) (Yields.assign rfl) trivial rfl rfl ?_
     refine St.nil ?_
     refine St.norm ?_
     refine St.ret ?_
     refine St.thenret ?_
     obtain rfl := sI hm
     exact St.doneR1 rfl rfl ⟨rfl, rfl⟩ (fun w hs => Among.of Among.none w hs)
    ·intro q122
     replace q122 : ¬ (a0.Kind = 0) := of_decide_eq_false q122
     replace hm := iF hm q122
     refine St.skip ?_
     refine St.norm ?_
     refine St.seq ?_
     refine St.region ?_
     refine St.val (v := (.int .i64 z97)) (Yields.move rfl) trivial rfl rfl ?_
     refine St.val (v := (.pointer (some ⟨b5, 3, none⟩))) (Yields.fieldAddr (v := (.pointer (some ⟨b5, 3, none⟩))) rfl (fun _ => by kernel_rfl)) trivial rfl rfl ?_
     refine St.val (v := (.int .i64 a0.B)) (Yields.load rfl (Loads.H1 0 rfl tc3 rfl)) trivial rfl rfl ?_
     refine St.val (v := (.bool (decide (z97 = a0.B)))) (Yields.eq rfl rfl) trivial rfl rfl ?_
     refine St.val (v := (.pointer (some ⟨b5, 0, none⟩))) (Yields.fieldAddr (v := (.pointer (some ⟨b5, 0, none⟩))) rfl (fun _ => by kernel_rfl)) trivial rfl rfl ?_
     refine St.val (v := (.int .i64 a0.Kind)) (Yields.load rfl (Loads.H1 0 rfl tc3 rfl)) trivial rfl rfl ?_
     refine St.val (v := (.bool (decide (a0.Kind = 1)))) (Yields.eq rfl rfl) trivial rfl rfl ?_
     refine St.val (v := (.bool (decide ((decide (z97 = a0.B)) = (decide (a0.Kind = 1)))))) (Yields.beqd tb4 rfl rfl) trivial rfl rfl ?_
     refine St.val (v := (.bool (decide ((decide (z97 = a0.B)) = (decide (a0.Kind = 1)))))) (Yields.assign rfl) trivial rfl rfl ?_
     refine St.nil ?_
     refine St.norm ?_
     refine St.ret ?_
     obtain rfl := sI hm
     exact St.doneR1 rfl rfl ⟨rfl, rfl⟩ (fun w hs => Among.of Among.none w hs)

theorem m_ref11_Tuples_sp {F : PH} {g : Nat} {a0 : DProblem} {pA0_0 : Option Addr} {pc0_0 : Nat} {pA0_1 : Option Addr} {pc0_1 : Nat} (ph0_0 : Fsl 24 (Kind.sl 8 (Kind.int .i64)) F pA0_0 pc0_0 a0.Doms) (ph0_1 : Fsl 88 KDLimit F pA0_1 pc0_1 a0.Limits) {r : List (List Int)} (hm : m_ref11_Tuples g a0 = some r) :
  CallSp Try.prog 13 #[.agg #[.slice pA0_0 a0.Doms.length pc0_0, .slice pA0_1 a0.Limits.length pc0_1]] F [] (fun u F' H' => ∃ (B0 : Option Addr) (d0 : Nat), u = (.slice B0 r.length d0) ∧ Fsl 24 (Kind.sl 8 (Kind.int .i64)) F' B0 d0 r ∧ H' = []) := by
 unfold m_ref11_Tuples at hm
 refine CallSp.enter (args := [.agg #[.slice pA0_0 a0.Doms.length pc0_0, .slice pA0_1 a0.Limits.length pc0_1]]) Try.func13 rfl rfl ?_
 intro w0 m0 hm0
 refine St.seq ?_
 refine St.region ?_
 refine St.box rfl trivial rfl ?_
 intro b3
 refine St.val (v := (.slice none 0 0)) (Yields.assign rfl) trivial rfl rfl ?_
 refine St.nil ?_
 refine St.norm ?_
 refine St.seq ?_
 refine St.region ?_
 refine St.val (v := (.slice none 0 0)) (Yields.assign rfl) trivial rfl rfl ?_
 refine St.nil ?_
 refine St.norm ?_
 obtain ⟨o5, hm, ho6⟩ := jS hm
 refine St.cutI (fun a w => ∃ z4 : Unit, o5 = .inl z4 ∧ Has Try.f13.ntmps a [(1, .pointer (some ⟨b3, 0, none⟩)), (3, .slice none 0 0)] ∧ Sat ⟨w0, fun b => m0 b ≠ none, F⟩ F [blk b3 (.cells #[.slice pA0_0 a0.Doms.length pc0_0, .slice pA0_1 a0.Limits.length pc0_1] 25 (0, 0))] w) ?_ ?_
 ·skip
  refine St.seq ?_
  refine St.region ?_
  refine St.val (v := (.int .i64 0)) (Yields.assign rfl) trivial rfl rfl ?_
  refine St.nil ?_
  refine St.norm ?_
  refine St.block ?_
  refine St.loopM hm (fun s8 a w => Has Try.f13.ntmps a [(1, .pointer (some ⟨b3, 0, none⟩)), (3, .slice none 0 0), (4, .int .i64 ((s8 : Nat) : Int))] ∧ Sat ⟨w0, fun b => m0 b ≠ none, F⟩ F [blk b3 (.cells #[.slice pA0_0 a0.Doms.length pc0_0, .slice pA0_1 a0.Limits.length pc0_1] 25 (0, 0))] w) ?_ ?_
  ·skip
   intro a w ha hs
   exact ⟨ha.covers ⟨rfl, rfl, rfl, trivial⟩, (Among.of (Among.take 0 rfl rfl Among.none) _ hs)⟩
  ·rintro s8 o9 co10 hm ho11 a w ⟨ha, hs⟩
   refine St.use (?_ : St _ _ _ _ _ _) ha hs
   clear ha hs a w
   refine St.seq ?_
   refine St.seq ?_
   refine St.region ?_
   refine St.val (v := (.int .i64 ((s8 : Nat) : Int))) (Yields.move rfl) trivial rfl rfl ?_
   refine St.val (v := (.pointer (some ⟨b3, 0, none⟩))) (Yields.fieldAddr (v := (.pointer (some ⟨b3, 0, none⟩))) rfl (fun _ => by kernel_rfl)) trivial rfl rfl ?_
   refine St.val (v := (.slice pA0_0 a0.Doms.length pc0_0)) (Yields.load rfl (Loads.H1 0 rfl tc22 rfl)) trivial rfl rfl ?_
   refine St.val (v := (.int .i64 ((a0.Doms.length : Nat) : Int))) (Yields.lenSlice tu22 rfl) trivial rfl rfl ?_
   refine St.val (v := (.bool (decide (((s8 : Nat) : Int) < ((a0.Doms.length : Nat) : Int))))) (Yields.lt rfl rfl) trivial rfl rfl ?_
   refine St.nil ?_
   refine St.norm ?_
   refine St.cond_b rfl ?_ ?_
   ·intro q12
    replace q12 : ((s8 : Nat) : Int) < ((a0.Doms.length : Nat) : Int) := of_decide_eq_true q12
    replace hm := iT hm q12
    refine St.skip ?_
    refine St.norm ?_
    refine St.seq ?_
    refine St.block ?_
    refine St.seq ?_
    refine St.region ?_
    refine St.val (v := (.pointer (some ⟨b3, 0, none⟩))) (Yields.fieldAddr (v := (.pointer (some ⟨b3, 0, none⟩))) rfl (fun _ => by kernel_rfl)) trivial rfl rfl ?_
    refine St.val (v := (.slice pA0_0 a0.Doms.length pc0_0)) (Yields.load rfl (Loads.H1 0 rfl tc22 rfl)) trivial rfl rfl ?_
    refine St.val (v := (.int .i64 ((s8 : Nat) : Int))) (Yields.move rfl) trivial rfl rfl ?_
    obtain ⟨x13, e14, hm⟩ := bS hm
    obtain ⟨p15, cs16, jx17, R18, k19⟩ := ph0_0.nidx e14
    obtain ⟨A20, c21, rfl, h22⟩ := R18
    refine St.val (v := (.pointer (some p15))) (Yields.idx jx17 ts22 rfl rfl) trivial rfl rfl ?_
    refine St.val (v := (.slice A20 x13.length c21)) (Yields.load rfl (Loads.Fat k19 tc26 rfl)) trivial rfl rfl ?_
    refine St.val (v := (.int .i64 ((x13.length : Nat) : Int))) (Yields.lenSlice tu26 rfl) trivial rfl rfl ?_
    refine St.val (v := (.bool (decide (((x13.length : Nat) : Int) = 0)))) (Yields.eq rfl rfl) trivial rfl rfl ?_
    refine St.nil ?_
    refine St.norm ?_
    refine St.cond_b rfl ?_ ?_
    ·intro q24
     replace q24 : ((x13.length : Nat) : Int) = 0 := of_decide_eq_true q24
     replace hm := iT hm q24
     refine St.seq ?_
     refine St.region ?_
     refine St.val (v := (.slice none 0 0)) (Yields.assign rfl) trivial rfl rfl ?_
     refine St.nil ?_
     refine St.norm ?_
     refine St.ret ?_
     refine St.inret ?_
     refine St.thenret ?_
     refine St.thenret ?_
     refine St.inret ?_
     refine St.thenret ?_
     obtain rfl := sI hm
     obtain rfl := aR ho11
     obtain rfl := aR ho6
     exact St.doneR1 rfl rfl ⟨none, 0, rfl, Fsl.nil, rfl⟩ (fun w hs => Among.of Among.none w hs)
    ·intro q25
     replace q25 : ¬ (((x13.length : Nat) : Int) = 0) := of_decide_eq_false q25
     replace hm := iF hm q25
     refine St.skip ?_
     refine St.innorm ?_
     refine St.norm ?_
     refine St.region ?_
     refine St.val (v := (.int .i64 ((s8 : Nat) : Int))) (Yields.move rfl) trivial rfl rfl ?_
     refine St.val (v := (.int .i64 ((s8 + 1 : Nat) : Int))) (Yields.addn (j := 1) rfl rfl rfl (by have q_0 := q12; have q_1 := ph0_0.bnd.2; omega)) trivial rfl rfl ?_
     refine St.val (v := (.int .i64 ((s8 + 1 : Nat) : Int))) (Yields.assign rfl) trivial rfl rfl ?_
     refine St.nil ?_
     refine St.norm ?_
     obtain rfl := sI hm
     intro a w ha hs
     exact ⟨s8 + 1, aL ho11, ha.covers ⟨rfl, rfl, rfl, trivial⟩, (Among.of (Among.take 0 rfl rfl Among.none) _ hs)⟩
   ·intro q26
    replace q26 : ¬ (((s8 : Nat) : Int) < ((a0.Doms.length : Nat) : Int)) := of_decide_eq_false q26
    replace hm := iF hm q26
    refine St.exit ?_
    refine St.thenexit ?_
    refine St.thenexit ?_
    refine St.inexit ?_
    obtain rfl := sI hm
    obtain rfl := aR ho11
    intro a w ha hs
    exact ⟨(), rfl, ha.covers ⟨rfl, rfl, trivial⟩, (Among.of (Among.take 0 rfl rfl Among.none) _ hs)⟩
 ·rintro a w ⟨z4, rfl, ha, hs⟩
  replace hm := aL ho6
  refine St.use (?_ : St _ _ _ _ _ _) ha hs
  clear ha hs a w
  refine St.seq ?_
  refine St.region ?_
  refine St.val (v := (.pointer (some ⟨b3, 0, none⟩))) (Yields.fieldAddr (v := (.pointer (some ⟨b3, 0, none⟩))) rfl (fun _ => by kernel_rfl)) trivial rfl rfl ?_
  refine St.val (v := (.slice pA0_0 a0.Doms.length pc0_0)) (Yields.load rfl (Loads.H1 0 rfl tc22 rfl)) trivial rfl rfl ?_
  refine St.val (v := (.int .i64 ((a0.Doms.length : Nat) : Int))) (Yields.lenSlice tu22 rfl) trivial rfl rfl ?_
  obtain ⟨x27, e28, hm⟩ := bS hm
  refine St.makeK (D := (Kind.int .i64)) e28 ts26 tz3 rfl rfl rfl rfl rfl rfl trivial ?_
  intro g29 c30 cells31 h32 b33
  refine St.val (v := (.slice (some ⟨g29, 0, none⟩) x27.length c30)) (Yields.assign rfl) trivial rfl rfl ?_
  refine St.nil ?_
  refine St.norm ?_
  refine St.block ?_
  refine St.loopM hm (fun s50 a w => ∃ (A55 : Option Addr) (c56 : Nat) (cells58 : List Value) (A61 : Option Addr) (c62 : Nat) (cells64 : List Value) (F66 : PH), PH.le F F66 ∧ Cat (Kind.sl 8 (Kind.int .i64)) F66 cells58 s50.1 ∧ Bnd 24 s50.1 ∧ Cat (Kind.int .i64) F66 cells64 s50.2 ∧ Bnd 8 s50.2 ∧ Has Try.f13.ntmps a [(1, .pointer (some ⟨b3, 0, none⟩)), (3, .slice A55 s50.1.length c56), (5, .slice A61 s50.2.length c62)] ∧ Sat ⟨w0, fun b => m0 b ≠ none, F⟩ F66 [blk b3 (.cells #[.slice pA0_0 a0.Doms.length pc0_0, .slice pA0_1 a0.Limits.length pc0_1] 25 (0, 0)), rowo A55 s50.1.length c56 26 1 cells58, rowo A61 s50.2.length c62 3 1 cells64] w) ?_ ?_
  ·skip
   refine St.rowo_new 26 1 ?_
   intro a w ha hs
   exact ⟨none, 0, [], (some ⟨g29, 0, none⟩), c30, cells31, F, (PH.le_refl _), (show Cat (Kind.sl 8 (Kind.int .i64)) _ [] [] from rfl), Bnd.of_nil, h32, b33, ha.covers ⟨rfl, rfl, rfl, trivial⟩, (Among.of (Among.take 2 rfl rfl (Among.take 0 rfl rfl (Among.take 0 rfl rfl Among.none))) _ hs)⟩
  ·rintro s50 o51 co52 hm ho53 a w ⟨A55, c56, cells58, A61, c62, cells64, F66, l67, h57, b59, h63, b65, ha, hs⟩
   refine St.use (?_ : St _ _ _ _ _ _) ha hs
   clear ha hs a w
   refine St.block ?_
   refine St.seq ?_
   refine St.region ?_
   refine St.val (v := (.slice none 0 0)) (Yields.assign rfl) trivial rfl rfl ?_
   refine St.nil ?_
   refine St.norm ?_
   obtain ⟨z69, hm, hk76⟩ := bS hm
   refine St.cutI (fun a w => ∃ (A71 : Option Addr) (c72 : Nat) (cells74 : List Value), Cat (Kind.int .i64) F66 cells74 z69 ∧ Bnd 8 z69 ∧ Has Try.f13.ntmps a [(1, .pointer (some ⟨b3, 0, none⟩)), (3, .slice A55 s50.1.length c56), (5, .slice A61 s50.2.length c62), (6, .slice A71 z69.length c72)] ∧ Sat ⟨w0, fun b => m0 b ≠ none, F⟩ F66 [blk b3 (.cells #[.slice pA0_0 a0.Doms.length pc0_0, .slice pA0_1 a0.Limits.length pc0_1] 25 (0, 0)), rowo A55 s50.1.length c56 26 1 cells58, rowo A61 s50.2.length c62 3 1 cells64, rowo A71 z69.length c72 3 1 cells74] w) ?_ ?_
   ·skip
    refine St.seq ?_
    refine St.region ?_
    refine St.val (v := (.int .i64 0)) (Yields.assign rfl) trivial rfl rfl ?_
    refine St.nil ?_
    refine St.norm ?_
    refine St.block ?_
    refine St.loopM hm (fun s85 a w => ∃ (A90 : Option Addr) (c91 : Nat) (cells93 : List Value), Cat (Kind.int .i64) F66 cells93 s85.1 ∧ Bnd 8 s85.1 ∧ Has Try.f13.ntmps a [(1, .pointer (some ⟨b3, 0, none⟩)), (3, .slice A55 s50.1.length c56), (5, .slice A61 s50.2.length c62), (6, .slice A90 s85.1.length c91), (7, .int .i64 ((s85.2 : Nat) : Int))] ∧ Sat ⟨w0, fun b => m0 b ≠ none, F⟩ F66 [blk b3 (.cells #[.slice pA0_0 a0.Doms.length pc0_0, .slice pA0_1 a0.Limits.length pc0_1] 25 (0, 0)), rowo A55 s50.1.length c56 26 1 cells58, rowo A61 s50.2.length c62 3 1 cells64, rowo A90 s85.1.length c91 3 1 cells93] w) ?_ ?_
    ·skip
     refine St.rowo_new 3 1 ?_
     intro a w ha hs
     exact ⟨none, 0, [], (show Cat (Kind.int .i64) _ [] [] from rfl), Bnd.of_nil, ha.covers ⟨rfl, rfl, rfl, rfl, rfl, trivial⟩, (Among.of (Among.take 1 rfl rfl (Among.take 1 rfl rfl (Among.take 1 rfl rfl (Among.take 0 rfl rfl Among.none)))) _ hs)⟩
    ·rintro s85 o86 co87 hm ho88 a w ⟨A90, c91, cells93, h92, b94, ha, hs⟩
     refine St.use (?_ : St _ _ _ _ _ _) ha hs
     clear ha hs a w
     refine St.seq ?_
     refine St.seq ?_
     refine St.region ?_
     refine St.val (v := (.int .i64 ((s85.2 : Nat) : Int))) (Yields.move rfl) trivial rfl rfl ?_
     refine St.val (v := (.slice A61 s50.2.length c62)) (Yields.move rfl) trivial rfl rfl ?_
     refine St.val (v := (.int .i64 ((s50.2.length : Nat) : Int))) (Yields.lenSlice tu26 rfl) trivial rfl rfl ?_
     refine St.val (v := (.bool (decide (((s85.2 : Nat) : Int) < ((s50.2.length : Nat) : Int))))) (Yields.lt rfl rfl) trivial rfl rfl ?_
     refine St.nil ?_
     refine St.norm ?_
     refine St.cond_b rfl ?_ ?_
     ·intro q96
      replace q96 : ((s85.2 : Nat) : Int) < ((s50.2.length : Nat) : Int) := of_decide_eq_true q96
      replace hm := iT hm q96
      refine St.skip ?_
      refine St.norm ?_
      refine St.seq ?_
      refine St.block ?_
      refine StD.start [12, 13] [blk b3 (.cells #[.slice pA0_0 a0.Doms.length pc0_0, .slice pA0_1 a0.Limits.length pc0_1] 25 (0, 0)), rowo A55 s50.1.length c56 26 1 cells58, rowo A61 s50.2.length c62 3 1 cells64, rowo A90 s85.1.length c91 3 1 cells93] hmix ?_
      refine StD.takeP (i := 0) (v := (.slice A90 s85.1.length c91)) rfl (fun _ => Yields.move rfl) rfl rfl trivial (by rintro _ _ _ ⟨_, _, _, _, h, _⟩; cases h) (by kernel_rfl) (listed' := #[true, false, false, false, false, false, false, false, false, false, false, false, false, false, false]) rfl ?_
      refine StD.takeP (i := 1) (v := (.pointer (some ⟨b3, 0, none⟩))) rfl (fun _ => Yields.fieldAddr (v := (.pointer (some ⟨b3, 0, none⟩))) rfl (fun _ => by kernel_rfl)) rfl rfl trivial (by rintro _ _ _ ⟨_, _, _, _, h, _⟩; cases h) (by kernel_rfl) (listed' := #[true, true, false, false, false, false, false, false, false, false, false, false, false, false, false]) rfl ?_
      refine StD.take [0, 1, 3, 4, 6, 7, 8, 10, 14] (i := 2) (v := (.slice pA0_0 a0.Doms.length pc0_0)) rfl (Yields.load rfl (Loads.H1 0 rfl tc22 rfl)) rfl rfl trivial Among.refl (by rintro _ _ _ ⟨_, _, _, _, h, _⟩; cases h) (by kernel_rfl) (listed' := #[true, true, true, false, false, false, false, false, false, false, false, false, false, false, false]) rfl ?_
      refine StD.takeP (i := 3) (v := (.int .i64 ((s85.2 : Nat) : Int))) rfl (fun _ => Yields.move rfl) rfl rfl trivial (by rintro _ _ _ ⟨_, _, _, _, h, _⟩; cases h) (by kernel_rfl) (listed' := #[true, true, true, true, false, false, false, false, false, false, false, false, false, false, false]) rfl ?_
      obtain ⟨x97, e98, hm⟩ := bS hm
      obtain ⟨p99, cs100, jx101, R102, k103⟩ := (Fsl.mono l67 ph0_0).nidx e98
      obtain ⟨A104, c105, rfl, h106⟩ := R102
      refine StD.takeP (i := 4) (v := (.pointer (some p99))) rfl (fun _ => Yields.idx jx101 ts22 rfl rfl) rfl rfl trivial (by rintro _ _ _ ⟨_, _, _, _, h, _⟩; cases h) (by kernel_rfl) (listed' := #[true, true, true, true, true, false, false, false, false, false, false, false, false, false, false]) rfl ?_
      refine StD.take [0, 1, 3, 4, 6, 7, 8, 10, 14] (i := 5) (v := (.slice A104 x97.length c105)) rfl (Yields.load rfl (Loads.Fat k103 tc26 rfl)) rfl rfl trivial Among.refl (by rintro _ _ _ ⟨_, _, _, _, h, _⟩; cases h) (by kernel_rfl) (listed' := #[true, true, true, true, true, true, false, false, false, false, false, false, false, false, false]) rfl ?_
      refine StD.takeP (i := 6) (v := (.slice A61 s50.2.length c62)) rfl (fun _ => Yields.move rfl) rfl rfl trivial (by rintro _ _ _ ⟨_, _, _, _, h, _⟩; cases h) (by kernel_rfl) (listed' := #[true, true, true, true, true, true, true, false, false, false, false, false, false, false, false]) rfl ?_
      refine StD.takeP (i := 7) (v := (.int .i64 ((s85.2 : Nat) : Int))) rfl (fun _ => Yields.move rfl) rfl rfl trivial (by rintro _ _ _ ⟨_, _, _, _, h, _⟩; cases h) (by kernel_rfl) (listed' := #[true, true, true, true, true, true, true, true, false, false, false, false, false, false, false]) rfl ?_
      obtain ⟨x108, e109, hm⟩ := bS hm
      obtain ⟨jx110, jx111, cs112, R113, k114⟩ := h63.nidx e109
      obtain rfl := R113
      refine St.rowo_at 2 rfl (by omega) ?_
      intro hA115
      refine StD.takeP (i := 8) (v := (.pointer (some ⟨bk A61, bo A61 + (s85.2 : Int).toNat * 1, none⟩))) rfl (fun _ => Yields.idx (IdxAt.own hA115 jx110 jx111) ts26 rfl rfl) rfl rfl trivial (by rintro _ _ _ ⟨_, _, _, _, h, _⟩; cases h) (by kernel_rfl) (listed' := #[true, true, true, true, true, true, true, true, true, false, false, false, false, false, false]) rfl ?_
      refine StD.take [0, 1, 3, 4, 6, 7, 8, 10, 14] (i := 9) (v := (.int .i64 x108)) rfl (Yields.load rfl (Loads.rA1 2 rfl tc3 (k114 0 _ rfl))) rfl rfl trivial Among.refl (by rintro _ _ _ ⟨_, _, _, _, h, _⟩; cases h) (by kernel_rfl) (listed' := #[true, true, true, true, true, true, true, true, true, true, false, false, false, false, false]) rfl ?_
      obtain ⟨x116, e117, hm⟩ := bS hm
      obtain ⟨p118, cs119, jx120, R121, k122⟩ := h106.idx e117
      obtain rfl := R121
      refine StD.takeP (i := 10) (v := (.pointer (some p118))) rfl (fun _ => Yields.idx jx120 ts26 rfl rfl) rfl rfl trivial (by rintro _ _ _ ⟨_, _, _, _, h, _⟩; cases h) (by kernel_rfl) (listed' := #[true, true, true, true, true, true, true, true, true, true, true, false, false, false, false]) rfl ?_
      refine StD.take [0, 1, 3, 4, 6, 7, 8, 10, 14] (i := 11) (v := (.int .i64 x116)) rfl (Yields.load rfl (Loads.Fat k122 tc3 rfl)) rfl rfl trivial Among.refl (by rintro _ _ _ ⟨_, _, _, _, h, _⟩; cases h) (by kernel_rfl) (listed' := #[true, true, true, true, true, true, true, true, true, true, true, true, false, false, false]) rfl ?_
      refine StD.only (i := 12) rfl (by kernel_rfl) (listed' := #[true, true, true, true, true, true, true, true, true, true, true, true, true, false, false]) rfl ?_
      intro hcl123
      refine St.buildSlice (e := 3) (cells := #[.int .i64 x116]) (vs := #[(0, .int .i64 x116)]) (fun _ ha => evp1 ha rfl) (fun _ => by kernel_rfl) rfl trivial ?_
      intro b124
      refine StD.next hcl123 (fun h => by cases h) ?_
      refine StD.only (i := 13) rfl (by kernel_rfl) (listed' := #[true, true, true, true, true, true, true, true, true, true, true, true, true, true, false]) rfl ?_
      intro hcl125
      obtain ⟨x130, e131, hm⟩ := bS hm
      refine St.pushL (R := [blk b124 (.cells #[.int .i64 x116] 3 (0, 0)), blk b3 (.cells #[.slice pA0_0 a0.Doms.length pc0_0, .slice pA0_1 a0.Limits.length pc0_1] 25 (0, 0)), rowo A55 s50.1.length c56 26 1 cells58, rowo A61 s50.2.length c62 3 1 cells64]) (R3 := [blk b3 (.cells #[.slice pA0_0 a0.Doms.length pc0_0, .slice pA0_1 a0.Limits.length pc0_1] 25 (0, 0)), rowo A55 s50.1.length c56 26 1 cells58, rowo A61 s50.2.length c62 3 1 cells64]) e131 ts26 rfl rfl rfl rfl rfl 4 rfl rfl 0 rfl 0 rfl rfl h92 ⟨[.int .i64 x116], _, rfl, rfl, rfl⟩ rfl trivial ?_
      intro A126 c127 cells128 h129
      refine StD.next hcl125 (fun h => by cases h) ?_
      refine StD.takeP (i := 14) (v := (.slice A126 x130.length c127)) rfl (fun _ => Yields.assign rfl) rfl rfl trivial (by rintro _ _ _ ⟨_, _, _, _, h, _⟩; cases h) (by kernel_rfl) (listed' := #[true, true, true, true, true, true, true, true, true, true, true, true, true, true, true]) rfl ?_
      refine StD.done (by kernel_rfl) ?_
      refine St.innorm ?_
      refine St.norm ?_
      refine St.region ?_
      refine St.val (v := (.int .i64 ((s85.2 : Nat) : Int))) (Yields.move rfl) trivial rfl rfl ?_
      refine St.val (v := (.int .i64 ((s85.2 + 1 : Nat) : Int))) (Yields.addn (j := 1) rfl rfl rfl (by have q_0 := q96; have q_1 := b65.2; omega)) trivial rfl rfl ?_
      refine St.val (v := (.int .i64 ((s85.2 + 1 : Nat) : Int))) (Yields.assign rfl) trivial rfl rfl ?_
      refine St.nil ?_
      refine St.norm ?_
      obtain rfl := sI hm
      intro a w ha hs
      exact ⟨(x130, s85.2 + 1), aL ho88, A126, c127, cells128, h129, (Bnd.of_push e131), ha.covers ⟨rfl, rfl, rfl, rfl, rfl, trivial⟩, (Among.of (Among.take 1 rfl rfl (Among.take 1 rfl rfl (Among.take 1 rfl rfl (Among.take 0 rfl rfl Among.none)))) _ hs)⟩
     ·intro q133
      replace q133 : ¬ (((s85.2 : Nat) : Int) < ((s50.2.length : Nat) : Int)) := of_decide_eq_false q133
      replace hm := iF hm q133
      refine St.exit ?_
      refine St.thenexit ?_
      refine St.thenexit ?_
      refine St.inexit ?_
      obtain rfl := sI hm
      obtain rfl := aR ho88
      intro a w ha hs
      exact ⟨A90, c91, cells93, h92, b94, ha.covers ⟨rfl, rfl, rfl, rfl, trivial⟩, (Among.of (Among.take 0 rfl rfl (Among.take 0 rfl rfl (Among.take 0 rfl rfl (Among.take 0 rfl rfl Among.none)))) _ hs)⟩
   ·rintro a w ⟨A71, c72, cells74, h73, b75, ha, hs⟩
    replace hm := hk76
    refine St.use (?_ : St _ _ _ _ _ _) ha hs
    clear ha hs a w
    refine St.seq ?_
    refine St.region ?_
    refine St.val (v := (.bool true)) (Yields.assign rfl) trivial rfl rfl ?_
    refine St.nil ?_
    refine St.norm ?_
    obtain ⟨z134, hm, hk141⟩ := bS hm
    refine St.cutI (fun a w => ∃ (A138 : Option Addr) (c139 : Nat) (F135 : PH), PH.le F66 F135 ∧ Fsl 8 (Kind.int .i64) F135 A138 c139 z134.1 ∧ Has Try.f13.ntmps a [(1, .pointer (some ⟨b3, 0, none⟩)), (3, .slice A55 s50.1.length c56), (5, .slice A61 s50.2.length c62), (6, .slice A138 z134.1.length c139), (8, .bool z134.2)] ∧ Sat ⟨w0, fun b => m0 b ≠ none, F⟩ F135 [blk b3 (.cells #[.slice pA0_0 a0.Doms.length pc0_0, .slice pA0_1 a0.Limits.length pc0_1] 25 (0, 0)), rowo A55 s50.1.length c56 26 1 cells58, rowo A61 s50.2.length c62 3 1 cells64] w) ?_ ?_
    ·skip
     refine St.seq ?_
     refine St.region ?_
     refine St.val (v := (.int .i64 0)) (Yields.assign rfl) trivial rfl rfl ?_
     refine St.nil ?_
     refine St.norm ?_
     refine St.block ?_
     refine St.frz 3 rfl rfl rfl h73 b75 ?_
     intro F168 l169 h170
     refine St.loopM hm (fun s158 a w => ∃ (A163 : Option Addr) (c164 : Nat) (F166 : PH), PH.le F66 F166 ∧ Fsl 8 (Kind.int .i64) F166 A163 c164 s158.1 ∧ Has Try.f13.ntmps a [(1, .pointer (some ⟨b3, 0, none⟩)), (3, .slice A55 s50.1.length c56), (5, .slice A61 s50.2.length c62), (6, .slice A163 s158.1.length c164), (8, .bool s158.2.1), (9, .int .i64 s158.2.2)] ∧ Sat ⟨w0, fun b => m0 b ≠ none, F⟩ F166 [blk b3 (.cells #[.slice pA0_0 a0.Doms.length pc0_0, .slice pA0_1 a0.Limits.length pc0_1] 25 (0, 0)), rowo A55 s50.1.length c56 26 1 cells58, rowo A61 s50.2.length c62 3 1 cells64] w) ?_ ?_
     ·skip
      intro a w ha hs
      exact ⟨A71, c72, F168, l169, h170, ha.covers ⟨rfl, rfl, rfl, rfl, rfl, rfl, trivial⟩, (Among.of (Among.take 0 rfl rfl (Among.take 0 rfl rfl (Among.take 0 rfl rfl Among.none))) _ hs)⟩
     ·rintro s158 o159 co160 hm ho161 a w ⟨A163, c164, F166, l167, h165, ha, hs⟩
      refine St.use (?_ : St _ _ _ _ _ _) ha hs
      clear ha hs a w
      refine St.seq ?_
      obtain ⟨z171, hm, hk172⟩ := bS hm
      refine St.cutI (fun a w => Has Try.f13.ntmps a [(1, .pointer (some ⟨b3, 0, none⟩)), (3, .slice A55 s50.1.length c56), (5, .slice A61 s50.2.length c62), (6, .slice A163 s158.1.length c164), (8, .bool s158.2.1), (9, .int .i64 s158.2.2), (56, .bool z171)] ∧ Sat ⟨w0, fun b => m0 b ≠ none, F⟩ F166 [blk b3 (.cells #[.slice pA0_0 a0.Doms.length pc0_0, .slice pA0_1 a0.Limits.length pc0_1] 25 (0, 0)), rowo A55 s50.1.length c56 26 1 cells58, rowo A61 s50.2.length c62 3 1 cells64] w) ?_ ?_
      ·skip
       refine St.region ?_
       refine St.val (v := (.int .i64 s158.2.2)) (Yields.move rfl) trivial rfl rfl ?_
       refine St.val (v := (.pointer (some ⟨b3, 1, none⟩))) (Yields.fieldAddr (v := (.pointer (some ⟨b3, 1, none⟩))) rfl (fun _ => by kernel_rfl)) trivial rfl rfl ?_
       refine St.val (v := (.slice pA0_1 a0.Limits.length pc0_1)) (Yields.load rfl (Loads.H1 0 rfl tc23 rfl)) trivial rfl rfl ?_
       refine St.val (v := (.int .i64 ((a0.Limits.length : Nat) : Int))) (Yields.lenSlice tu23 rfl) trivial rfl rfl ?_
       by_cases q173 : s158.2.2 < ((a0.Limits.length : Nat) : Int)
       ·replace hm := iT hm q173
        refine St.val (v := (.bool true)) (Yields.is q173 (Yields.lt rfl rfl)) trivial rfl rfl ?_
        refine St.val (v := (.bool true)) (Yields.move rfl) trivial rfl rfl ?_
        refine St.val (v := (.bool s158.2.1)) (Yields.move rfl) rfl rfl rfl ?_
        refine St.val (v := (.bool s158.2.1)) (Yields.pick_t rfl rfl) trivial rfl rfl ?_
        refine St.nil ?_
        obtain rfl := sI hm
        intro a w ha hs
        exact ⟨ha.covers ⟨rfl, rfl, rfl, rfl, rfl, rfl, rfl, trivial⟩, (Among.of (Among.take 0 rfl rfl (Among.take 0 rfl rfl (Among.take 0 rfl rfl Among.none))) _ hs)⟩
       ·replace hm := iF hm q173
        refine St.val (v := (.bool false)) (Yields.isnt q173 (Yields.lt rfl rfl)) trivial rfl rfl ?_
        refine St.val (v := (.bool false)) (Yields.move rfl) trivial rfl rfl ?_
        refine St.unwanted rfl rfl rfl ?_
        refine St.val (v := (.bool false)) (Yields.pick_f rfl rfl) trivial rfl rfl ?_
        refine St.nil ?_
        obtain rfl := sI hm
        intro a w ha hs
        exact ⟨ha.covers ⟨rfl, rfl, rfl, rfl, rfl, rfl, rfl, trivial⟩, (Among.of (Among.take 0 rfl rfl (Among.take 0 rfl rfl (Among.take 0 rfl rfl Among.none))) _ hs)⟩
      ·rintro a w ⟨ha, hs⟩
       replace hm := hk172
       refine St.use (?_ : St _ _ _ _ _ _) ha hs
       clear ha hs a w
       refine St.cond_b rfl ?_ ?_
       ·intro q174
        replace q174 : z171 = true := q174
        replace hm := iT hm q174
        refine St.skip ?_
        refine St.norm ?_
        refine St.seq ?_
        refine St.block ?_
        refine StD.start [12] [blk b3 (.cells #[.slice pA0_0 a0.Doms.length pc0_0, .slice pA0_1 a0.Limits.length pc0_1] 25 (0, 0)), rowo A55 s50.1.length c56 26 1 cells58, rowo A61 s50.2.length c62 3 1 cells64] hmix ?_
        refine StD.takeP (i := 0) (v := (.pointer (some ⟨b3, 1, none⟩))) rfl (fun _ => Yields.fieldAddr (v := (.pointer (some ⟨b3, 1, none⟩))) rfl (fun _ => by kernel_rfl)) rfl rfl trivial (by rintro _ _ _ ⟨_, _, _, _, h, _⟩; cases h) (by kernel_rfl) (listed' := #[true, false, false, false, false, false, false, false, false, false, false, false, false, false]) rfl ?_
        refine StD.take [0, 2, 3, 5, 7, 8, 10, 13] (i := 1) (v := (.slice pA0_1 a0.Limits.length pc0_1)) rfl (Yields.load rfl (Loads.H1 0 rfl tc23 rfl)) rfl rfl trivial Among.refl (by rintro _ _ _ ⟨_, _, _, _, h, _⟩; cases h) (by kernel_rfl) (listed' := #[true, true, false, false, false, false, false, false, false, false, false, false, false, false]) rfl ?_
        refine StD.takeP (i := 2) (v := (.int .i64 s158.2.2)) rfl (fun _ => Yields.move rfl) rfl rfl trivial (by rintro _ _ _ ⟨_, _, _, _, h, _⟩; cases h) (by kernel_rfl) (listed' := #[true, true, true, false, false, false, false, false, false, false, false, false, false, false]) rfl ?_
        obtain ⟨x175, e176, hm⟩ := bS hm
        obtain ⟨p177, cs178, jx179, R180, k181⟩ := (Fsl.mono (PH.le_trans l67 l167) ph0_1).idx e176
        obtain ⟨A182, c183, A185, c186, A188, c189, rfl, h184, h187, h190⟩ := DLimit.opn R180
        refine StD.takeP (i := 3) (v := (.pointer (some p177))) rfl (fun _ => Yields.idx jx179 ts23 rfl rfl) rfl rfl trivial (by rintro _ _ _ ⟨_, _, _, _, h, _⟩; cases h) (by kernel_rfl) (listed' := #[true, true, true, true, false, false, false, false, false, false, false, false, false, false]) rfl ?_
        refine StD.take [0, 2, 3, 5, 7, 8, 10, 13] (i := 4) (v := (.agg #[.int .i64 x175.Kind, .slice A182 x175.Vars.length c183, .slice A185 x175.A.length c186, .int .i64 x175.B, .slice A188 x175.Rows.length c189])) rfl (Yields.load rfl (Loads.Fatn0 k181 ta28)) rfl rfl trivial Among.refl (by rintro _ _ _ ⟨_, _, _, _, h, _⟩; cases h) (by kernel_rfl) (listed' := #[true, true, true, true, true, false, false, false, false, false, false, false, false, false]) rfl ?_
        refine StD.takeP (i := 5) (v := (.pointer (some ⟨b3, 1, none⟩))) rfl (fun _ => Yields.fieldAddr (v := (.pointer (some ⟨b3, 1, none⟩))) rfl (fun _ => by kernel_rfl)) rfl rfl trivial (by rintro _ _ _ ⟨_, _, _, _, h, _⟩; cases h) (by kernel_rfl) (listed' := #[true, true, true, true, true, true, false, false, false, false, false, false, false, false]) rfl ?_
        refine StD.take [0, 2, 3, 5, 7, 8, 10, 13] (i := 6) (v := (.slice pA0_1 a0.Limits.length pc0_1)) rfl (Yields.load rfl (Loads.H1 0 rfl tc23 rfl)) rfl rfl trivial Among.refl (by rintro _ _ _ ⟨_, _, _, _, h, _⟩; cases h) (by kernel_rfl) (listed' := #[true, true, true, true, true, true, true, false, false, false, false, false, false, false]) rfl ?_
        refine StD.takeP (i := 7) (v := (.int .i64 s158.2.2)) rfl (fun _ => Yields.move rfl) rfl rfl trivial (by rintro _ _ _ ⟨_, _, _, _, h, _⟩; cases h) (by kernel_rfl) (listed' := #[true, true, true, true, true, true, true, true, false, false, false, false, false, false]) rfl ?_
        obtain ⟨x194, e195, hm⟩ := bS hm
        obtain ⟨p196, cs197, jx198, R199, k200⟩ := (Fsl.mono (PH.le_trans l67 l167) ph0_1).idx e195
        obtain ⟨A201, c202, A204, c205, A207, c208, rfl, h203, h206, h209⟩ := DLimit.opn R199
        refine StD.takeP (i := 8) (v := (.pointer (some p196))) rfl (fun _ => Yields.idx jx198 ts23 rfl rfl) rfl rfl trivial (by rintro _ _ _ ⟨_, _, _, _, h, _⟩; cases h) (by kernel_rfl) (listed' := #[true, true, true, true, true, true, true, true, true, false, false, false, false, false]) rfl ?_
        refine StD.take [0, 2, 3, 5, 7, 8, 10, 13] (i := 9) (v := (.agg #[.int .i64 x194.Kind, .slice A201 x194.Vars.length c202, .slice A204 x194.A.length c205, .int .i64 x194.B, .slice A207 x194.Rows.length c208])) rfl (Yields.load rfl (Loads.Fatn0 k200 ta28)) rfl rfl trivial Among.refl (by rintro _ _ _ ⟨_, _, _, _, h, _⟩; cases h) (by kernel_rfl) (listed' := #[true, true, true, true, true, true, true, true, true, true, false, false, false, false]) rfl ?_
        refine StD.takeP (i := 10) (v := (.slice A163 s158.1.length c164)) rfl (fun _ => Yields.move rfl) rfl rfl trivial (by rintro _ _ _ ⟨_, _, _, _, h, _⟩; cases h) (by kernel_rfl) (listed' := #[true, true, true, true, true, true, true, true, true, true, true, false, false, false]) rfl ?_
        refine StD.only (i := 11) rfl (by kernel_rfl) (listed' := #[true, true, true, true, true, true, true, true, true, true, true, true, false, false]) rfl ?_
        intro hcl213
        obtain ⟨q214, e215, hm⟩ := bS hm
        refine St.call [blk b3 (.cells #[.slice pA0_0 a0.Doms.length pc0_0, .slice pA0_1 a0.Limits.length pc0_1] 25 (0, 0)), rowo A55 s50.1.length c56 26 1 cells58, rowo A61 s50.2.length c62 3 1 cells64] (m_ref11_of_sp (a0 := x194) h203 h206 h209 h165 e215) rfl (fun _ ha => ev2 ha rfl rfl) rfl en32 rfl rfl trivial ?_
        rintro _ F216 _ ⟨A218, c219, rfl, h220, rfl⟩ l217
        refine StD.next hcl213 (fun _ => (Among.of_le l217 (PH.le_trans l67 l167) (Among.take 0 rfl rfl (Among.take 0 rfl rfl (Among.take 0 rfl rfl Among.none))))) ?_
        refine StD.only (i := 12) rfl (by kernel_rfl) (listed' := #[true, true, true, true, true, true, true, true, true, true, true, true, true, false]) rfl ?_
        intro hcl222
        obtain ⟨q223, e224, hm⟩ := bS hm
        refine St.call [blk b3 (.cells #[.slice pA0_0 a0.Doms.length pc0_0, .slice pA0_1 a0.Limits.length pc0_1] 25 (0, 0)), rowo A55 s50.1.length c56 26 1 cells58, rowo A61 s50.2.length c62 3 1 cells64] (m_ref11_Meets_sp (a0 := x175) (Fsl.mono l217 h184) (Fsl.mono l217 h187) (Fsl.mono l217 h190) h220 e224) rfl (fun _ ha => ev2 ha rfl rfl) rfl en31 rfl rfl trivial ?_
        rintro _ F225 _ ⟨rfl, rfl⟩ l226
        refine StD.next hcl222 (fun h => by cases h) ?_
        refine StD.takeP (i := 13) (v := (.bool q223)) rfl (fun _ => Yields.assign rfl) rfl rfl trivial (by rintro _ _ _ ⟨_, _, _, _, h, _⟩; cases h) (by kernel_rfl) (listed' := #[true, true, true, true, true, true, true, true, true, true, true, true, true, true]) rfl ?_
        refine StD.done (by kernel_rfl) ?_
        refine St.innorm ?_
        refine St.norm ?_
        refine St.region ?_
        refine St.val (v := (.int .i64 s158.2.2)) (Yields.move rfl) trivial rfl rfl ?_
        refine St.val (v := (.int .i64 (Mir.w64 (s158.2.2 + 1)))) (Yields.addw rfl rfl) trivial rfl rfl ?_
        refine St.val (v := (.int .i64 (Mir.w64 (s158.2.2 + 1)))) (Yields.assign rfl) trivial rfl rfl ?_
        refine St.nil ?_
        refine St.norm ?_
        obtain rfl := sI hm
        intro a w ha hs
        exact ⟨(s158.1, q223, Mir.w64 (s158.2.2 + 1)), aL ho161, A163, c164, F225, (PH.le_trans l167 (PH.le_trans l217 l226)), (Fsl.mono (PH.le_trans l217 l226) h165), ha.covers ⟨rfl, rfl, rfl, rfl, rfl, rfl, trivial⟩, (Among.of (Among.take 0 rfl rfl (Among.take 0 rfl rfl (Among.take 0 rfl rfl Among.none))) _ hs)⟩
       ·intro q227
        replace q227 : ¬ (z171 = true) := bf q227
        replace hm := iF hm q227
        refine St.exit ?_
        refine St.thenexit ?_
        refine St.thenexit ?_
        refine St.inexit ?_
        obtain rfl := sI hm
        obtain rfl := aR ho161
        intro a w ha hs
        exact ⟨A163, c164, F166, l167, h165, ha.covers ⟨rfl, rfl, rfl, rfl, rfl, trivial⟩, (Among.of (Among.take 0 rfl rfl (Among.take 0 rfl rfl (Among.take 0 rfl rfl Among.none))) _ hs)⟩
    ·rintro a w ⟨A138, c139, F135, l136, h140, ha, hs⟩
     replace hm := hk141
     refine St.use (?_ : St _ _ _ _ _ _) ha hs
     clear ha hs a w
     obtain ⟨z228, hm, hk235⟩ := bS hm
     refine St.cutI (fun a w => ∃ (A230 : Option Addr) (c231 : Nat) (cells233 : List Value), Cat (Kind.sl 8 (Kind.int .i64)) F135 cells233 z228 ∧ Bnd 24 z228 ∧ Has Try.f13.ntmps a [(1, .pointer (some ⟨b3, 0, none⟩)), (3, .slice A230 z228.length c231), (5, .slice A61 s50.2.length c62)] ∧ Sat ⟨w0, fun b => m0 b ≠ none, F⟩ F135 [blk b3 (.cells #[.slice pA0_0 a0.Doms.length pc0_0, .slice pA0_1 a0.Limits.length pc0_1] 25 (0, 0)), rowo A230 z228.length c231 26 1 cells233, rowo A61 s50.2.length c62 3 1 cells64] w) ?_ ?_
     ·skip
      refine St.seq ?_
      refine St.region ?_
      refine St.val (v := (.bool z134.2)) (Yields.move rfl) trivial rfl rfl ?_
      refine St.nil ?_
      refine St.norm ?_
      refine St.cond_b rfl ?_ ?_
      ·intro q236
       replace q236 : z134.2 = true := q236
       replace hm := iT hm q236
       refine St.region ?_
       refine St.val (v := (.slice A55 s50.1.length c56)) (Yields.move rfl) trivial rfl rfl ?_
       refine St.val (v := (.slice A138 z134.1.length c139)) (Yields.move rfl) trivial rfl rfl ?_
       refine St.buildSlice (e := 26) (cells := #[.slice A138 z134.1.length c139]) (vs := #[(0, .slice A138 z134.1.length c139)]) (fun _ ha => evp1 ha rfl) (fun _ => by kernel_rfl) rfl trivial ?_
       intro b237
       obtain ⟨x242, e243, hm⟩ := bS hm
       refine St.pushL (R := [blk b237 (.cells #[.slice A138 z134.1.length c139] 26 (0, 0)), blk b3 (.cells #[.slice pA0_0 a0.Doms.length pc0_0, .slice pA0_1 a0.Limits.length pc0_1] 25 (0, 0)), rowo A61 s50.2.length c62 3 1 cells64]) (R3 := [blk b3 (.cells #[.slice pA0_0 a0.Doms.length pc0_0, .slice pA0_1 a0.Limits.length pc0_1] 25 (0, 0)), rowo A61 s50.2.length c62 3 1 cells64]) e243 ts22 rfl rfl rfl rfl rfl 2 rfl rfl 0 rfl 0 rfl rfl (Cat.mono l136 h57) ⟨[.slice A138 z134.1.length c139], _, rfl, ⟨_, _, rfl, h140⟩, rfl⟩ rfl trivial ?_
       intro A238 c239 cells240 h241
       refine St.val (v := (.slice A238 x242.length c239)) (Yields.assign rfl) trivial rfl rfl ?_
       refine St.nil ?_
       obtain rfl := sI hm
       intro a w ha hs
       exact ⟨A238, c239, cells240, h241, (Bnd.of_push e243), ha.covers ⟨rfl, rfl, rfl, trivial⟩, (Among.of (Among.take 1 rfl rfl (Among.take 0 rfl rfl (Among.take 0 rfl rfl Among.none))) _ hs)⟩
      ·intro q245
       replace q245 : ¬ (z134.2 = true) := bf q245
       replace hm := iF hm q245
       refine St.skip ?_
       obtain rfl := sI hm
       intro a w ha hs
       exact ⟨A55, c56, cells58, (Cat.mono l136 h57), b59, ha.covers ⟨rfl, rfl, rfl, trivial⟩, (Among.of (Among.take 0 rfl rfl (Among.take 0 rfl rfl (Among.take 0 rfl rfl Among.none))) _ hs)⟩
     ·rintro a w ⟨A230, c231, cells233, h232, b234, ha, hs⟩
      replace hm := hk235
      refine St.use (?_ : St _ _ _ _ _ _) ha hs
      clear ha hs a w
      refine St.seq ?_
      refine St.region ?_
      refine St.val (v := (.slice A61 s50.2.length c62)) (Yields.move rfl) trivial rfl rfl ?_
      refine St.val (v := (.int .i64 ((s50.2.length : Nat) : Int))) (Yields.lenSlice tu26 rfl) trivial rfl rfl ?_
      refine St.val (v := (.int .i64 (((s50.2.length : Nat) : Int) - 1))) (Yields.sub rfl rfl (by have q_0 := b65.2; omega) (by have q_0 := b65.2; omega)) trivial rfl rfl ?_
      refine St.val (v := (.int .i64 (((s50.2.length : Nat) : Int) - 1))) (Yields.assign rfl) trivial rfl rfl ?_
      refine St.nil ?_
      refine St.norm ?_
      obtain ⟨z246, hm, hk253⟩ := bS hm
      refine St.cutI (fun a w => ∃ (A248 : Option Addr) (c249 : Nat) (cells251 : List Value), Cat (Kind.int .i64) F135 cells251 z246.1 ∧ Bnd 8 z246.1 ∧ Has Try.f13.ntmps a [(1, .pointer (some ⟨b3, 0, none⟩)), (3, .slice A230 z228.length c231), (5, .slice A248 z246.1.length c249), (10, .int .i64 z246.2)] ∧ Sat ⟨w0, fun b => m0 b ≠ none, F⟩ F135 [blk b3 (.cells #[.slice pA0_0 a0.Doms.length pc0_0, .slice pA0_1 a0.Limits.length pc0_1] 25 (0, 0)), rowo A230 z228.length c231 26 1 cells233, rowo A248 z246.1.length c249 3 1 cells251] w) ?_ ?_
      ·skip
       refine St.block ?_
       refine St.loopM hm (fun s262 a w => ∃ (A267 : Option Addr) (c268 : Nat) (cells270 : List Value), Cat (Kind.int .i64) F135 cells270 s262.1 ∧ Bnd 8 s262.1 ∧ Has Try.f13.ntmps a [(1, .pointer (some ⟨b3, 0, none⟩)), (3, .slice A230 z228.length c231), (5, .slice A267 s262.1.length c268), (10, .int .i64 s262.2)] ∧ Sat ⟨w0, fun b => m0 b ≠ none, F⟩ F135 [blk b3 (.cells #[.slice pA0_0 a0.Doms.length pc0_0, .slice pA0_1 a0.Limits.length pc0_1] 25 (0, 0)), rowo A230 z228.length c231 26 1 cells233, rowo A267 s262.1.length c268 3 1 cells270] w) ?_ ?_
       ·skip
        intro a w ha hs
        exact ⟨A61, c62, cells64, (Cat.mono l136 h63), b65, ha.covers ⟨rfl, rfl, rfl, rfl, trivial⟩, (Among.of (Among.take 0 rfl rfl (Among.take 0 rfl rfl (Among.take 0 rfl rfl Among.none))) _ hs)⟩
       ·rintro s262 o263 co264 hm ho265 a w ⟨A267, c268, cells270, h269, b271, ha, hs⟩
        refine St.use (?_ : St _ _ _ _ _ _) ha hs
        clear ha hs a w
        refine St.seq ?_
        obtain ⟨z272, hm, hk273⟩ := bS hm
        refine St.cutI (fun a w => Has Try.f13.ntmps a [(1, .pointer (some ⟨b3, 0, none⟩)), (3, .slice A230 z228.length c231), (5, .slice A267 s262.1.length c268), (10, .int .i64 s262.2), (95, .bool z272)] ∧ Sat ⟨w0, fun b => m0 b ≠ none, F⟩ F135 [blk b3 (.cells #[.slice pA0_0 a0.Doms.length pc0_0, .slice pA0_1 a0.Limits.length pc0_1] 25 (0, 0)), rowo A230 z228.length c231 26 1 cells233, rowo A267 s262.1.length c268 3 1 cells270] w) ?_ ?_
        ·skip
         refine StD.start [] [blk b3 (.cells #[.slice pA0_0 a0.Doms.length pc0_0, .slice pA0_1 a0.Limits.length pc0_1] 25 (0, 0)), rowo A230 z228.length c231 26 1 cells233, rowo A267 s262.1.length c268 3 1 cells270] hmix ?_
         refine StD.takeP (i := 0) (v := (.int .i64 s262.2)) rfl (fun _ => Yields.move rfl) rfl rfl trivial (by rintro _ _ _ ⟨_, _, _, _, h, _⟩; cases h) (by kernel_rfl) (listed' := #[true, false, false, false, false, false, false, false, false, false, false, false, false, false, false, false]) rfl ?_
         by_cases q274 : s262.2 ≥ 0
         ·replace hm := iT hm q274
          refine StD.takeP (i := 1) (v := (.bool true)) rfl (fun _ => Yields.is q274 (Yields.ge rfl rfl)) rfl rfl trivial (by rintro _ _ _ ⟨_, _, _, _, h, _⟩; cases h) (by kernel_rfl) (listed' := #[true, true, false, false, false, false, false, false, false, false, false, false, false, false, false, false]) rfl ?_
          refine StD.takeP (i := 2) (v := (.bool true)) rfl (fun _ => Yields.move rfl) rfl rfl trivial (by rintro _ _ _ ⟨_, _, _, _, h, _⟩; cases h) (by kernel_rfl) (listed' := #[true, true, true, false, false, false, false, false, false, false, false, false, false, false, false, false]) rfl ?_
          refine StD.takeP (i := 3) (v := (.slice A267 s262.1.length c268)) rfl (fun _ => Yields.move rfl) rfl rfl rfl (by rintro _ _ _ ⟨_, _, _, _, h, _⟩; cases h) (by kernel_rfl) (listed' := #[true, true, true, true, false, false, false, false, false, false, false, false, false, false, false, false]) rfl ?_
          refine StD.takeP (i := 4) (v := (.int .i64 s262.2)) rfl (fun _ => Yields.move rfl) rfl rfl rfl (by rintro _ _ _ ⟨_, _, _, _, h, _⟩; cases h) (by kernel_rfl) (listed' := #[true, true, true, true, true, false, false, false, false, false, false, false, false, false, false, false]) rfl ?_
          obtain ⟨x275, e276, hm⟩ := bS hm
          obtain ⟨jx277, jx278, cs279, R280, k281⟩ := h269.idx e276
          obtain rfl := R280
          refine St.rowo_at 2 rfl (by omega) ?_
          intro hA282
          refine StD.takeP (i := 5) (v := (.pointer (some ⟨bk A267, bo A267 + s262.2.toNat * 1, none⟩))) rfl (fun _ => Yields.idx (IdxAt.own hA282 jx277 jx278) ts26 rfl rfl) rfl rfl rfl (by rintro _ _ _ ⟨_, _, _, _, h, _⟩; cases h) (by kernel_rfl) (listed' := #[true, true, true, true, true, true, false, false, false, false, false, false, false, false, false, false]) rfl ?_
          refine StD.take [0, 1, 2, 3, 4, 5, 7, 9, 10, 12, 13, 14, 15] (i := 6) (v := (.int .i64 x275)) rfl (Yields.load rfl (Loads.rA1 2 rfl tc3 (k281 0 _ rfl))) rfl rfl rfl Among.refl (by rintro _ _ _ ⟨_, _, _, _, h, _⟩; cases h) (by kernel_rfl) (listed' := #[true, true, true, true, true, true, true, false, false, false, false, false, false, false, false, false]) rfl ?_
          refine StD.takeP (i := 7) (v := (.pointer (some ⟨b3, 0, none⟩))) rfl (fun _ => Yields.fieldAddr (v := (.pointer (some ⟨b3, 0, none⟩))) rfl (fun _ => by kernel_rfl)) rfl rfl rfl (by rintro _ _ _ ⟨_, _, _, _, h, _⟩; cases h) (by kernel_rfl) (listed' := #[true, true, true, true, true, true, true, true, false, false, false, false, false, false, false, false]) rfl ?_
          refine StD.take [0, 1, 2, 3, 4, 5, 7, 9, 10, 12, 13, 14, 15] (i := 8) (v := (.slice pA0_0 a0.Doms.length pc0_0)) rfl (Yields.load rfl (Loads.H1 0 rfl tc22 rfl)) rfl rfl rfl Among.refl (by rintro _ _ _ ⟨_, _, _, _, h, _⟩; cases h) (by kernel_rfl) (listed' := #[true, true, true, true, true, true, true, true, true, false, false, false, false, false, false, false]) rfl ?_
          refine StD.takeP (i := 9) (v := (.int .i64 s262.2)) rfl (fun _ => Yields.move rfl) rfl rfl rfl (by rintro _ _ _ ⟨_, _, _, _, h, _⟩; cases h) (by kernel_rfl) (listed' := #[true, true, true, true, true, true, true, true, true, true, false, false, false, false, false, false]) rfl ?_
          obtain ⟨x283, e284, hm⟩ := bS hm
          obtain ⟨p285, cs286, jx287, R288, k289⟩ := (Fsl.mono (PH.le_trans l67 l136) ph0_0).idx e284
          obtain ⟨A290, c291, rfl, h292⟩ := R288
          refine StD.takeP (i := 10) (v := (.pointer (some p285))) rfl (fun _ => Yields.idx jx287 ts22 rfl rfl) rfl rfl rfl (by rintro _ _ _ ⟨_, _, _, _, h, _⟩; cases h) (by kernel_rfl) (listed' := #[true, true, true, true, true, true, true, true, true, true, true, false, false, false, false, false]) rfl ?_
          refine StD.take [0, 1, 2, 3, 4, 5, 7, 9, 10, 12, 13, 14, 15] (i := 11) (v := (.slice A290 x283.length c291)) rfl (Yields.load rfl (Loads.Fat k289 tc26 rfl)) rfl rfl rfl Among.refl (by rintro _ _ _ ⟨_, _, _, _, h, _⟩; cases h) (by kernel_rfl) (listed' := #[true, true, true, true, true, true, true, true, true, true, true, true, false, false, false, false]) rfl ?_
          refine StD.takeP (i := 12) (v := (.int .i64 ((x283.length : Nat) : Int))) rfl (fun _ => Yields.lenSlice tu26 rfl) rfl rfl rfl (by rintro _ _ _ ⟨_, _, _, _, h, _⟩; cases h) (by kernel_rfl) (listed' := #[true, true, true, true, true, true, true, true, true, true, true, true, true, false, false, false]) rfl ?_
          refine StD.takeP (i := 13) (v := (.int .i64 (((x283.length : Nat) : Int) - 1))) rfl (fun _ => Yields.sub rfl rfl (by have q_0 := h292.bnd.2; omega) (by have q_0 := h292.bnd.2; omega)) rfl rfl rfl (by rintro _ _ _ ⟨_, _, _, _, h, _⟩; cases h) (by kernel_rfl) (listed' := #[true, true, true, true, true, true, true, true, true, true, true, true, true, true, false, false]) rfl ?_
          refine StD.takeP (i := 14) (v := (.bool (decide (x275 = ((x283.length : Nat) : Int) - 1)))) rfl (fun _ => Yields.eq rfl rfl) rfl rfl rfl (by rintro _ _ _ ⟨_, _, _, _, h, _⟩; cases h) (by kernel_rfl) (listed' := #[true, true, true, true, true, true, true, true, true, true, true, true, true, true, true, false]) rfl ?_
          refine StD.takeP (i := 15) (v := (.bool (decide (x275 = ((x283.length : Nat) : Int) - 1)))) rfl (fun _ => Yields.pick_t rfl rfl) rfl rfl trivial (by rintro _ _ _ ⟨_, _, _, _, h, _⟩; cases h) (by kernel_rfl) (listed' := #[true, true, true, true, true, true, true, true, true, true, true, true, true, true, true, true]) rfl ?_
          refine StD.done (by kernel_rfl) ?_
          obtain rfl := sI hm
          intro a w ha hs
          exact ⟨ha.covers ⟨rfl, rfl, rfl, rfl, rfl, trivial⟩, (Among.of (Among.take 0 rfl rfl (Among.take 0 rfl rfl (Among.take 0 rfl rfl Among.none))) _ hs)⟩
         ·replace hm := iF hm q274
          refine StD.takeP (i := 1) (v := (.bool false)) rfl (fun _ => Yields.isnt q274 (Yields.ge rfl rfl)) rfl rfl trivial (by rintro _ _ _ ⟨_, _, _, _, h, _⟩; cases h) (by kernel_rfl) (listed' := #[true, true, false, false, false, false, false, false, false, false, false, false, false, false, false, false]) rfl ?_
          refine StD.takeP (i := 2) (v := (.bool false)) rfl (fun _ => Yields.move rfl) rfl rfl trivial (by rintro _ _ _ ⟨_, _, _, _, h, _⟩; cases h) (by kernel_rfl) (listed' := #[true, true, true, false, false, false, false, false, false, false, false, false, false, false, false, false]) rfl ?_
          refine StD.takeNot (i := 3) rfl rfl rfl rfl (by rintro _ _ _ ⟨_, _, _, _, h, _⟩; cases h) (by kernel_rfl) (listed' := #[true, true, true, true, false, false, false, false, false, false, false, false, false, false, false, false]) rfl ?_
          refine StD.takeNot (i := 4) rfl rfl rfl rfl (by rintro _ _ _ ⟨_, _, _, _, h, _⟩; cases h) (by kernel_rfl) (listed' := #[true, true, true, true, true, false, false, false, false, false, false, false, false, false, false, false]) rfl ?_
          refine StD.takeNot (i := 5) rfl rfl rfl rfl (by rintro _ _ _ ⟨_, _, _, _, h, _⟩; cases h) (by kernel_rfl) (listed' := #[true, true, true, true, true, true, false, false, false, false, false, false, false, false, false, false]) rfl ?_
          refine StD.takeNot (i := 6) rfl rfl rfl rfl (by rintro _ _ _ ⟨_, _, _, _, h, _⟩; cases h) (by kernel_rfl) (listed' := #[true, true, true, true, true, true, true, false, false, false, false, false, false, false, false, false]) rfl ?_
          refine StD.takeNot (i := 7) rfl rfl rfl rfl (by rintro _ _ _ ⟨_, _, _, _, h, _⟩; cases h) (by kernel_rfl) (listed' := #[true, true, true, true, true, true, true, true, false, false, false, false, false, false, false, false]) rfl ?_
          refine StD.takeNot (i := 8) rfl rfl rfl rfl (by rintro _ _ _ ⟨_, _, _, _, h, _⟩; cases h) (by kernel_rfl) (listed' := #[true, true, true, true, true, true, true, true, true, false, false, false, false, false, false, false]) rfl ?_
          refine StD.takeNot (i := 9) rfl rfl rfl rfl (by rintro _ _ _ ⟨_, _, _, _, h, _⟩; cases h) (by kernel_rfl) (listed' := #[true, true, true, true, true, true, true, true, true, true, false, false, false, false, false, false]) rfl ?_
          refine StD.takeNot (i := 10) rfl rfl rfl rfl (by rintro _ _ _ ⟨_, _, _, _, h, _⟩; cases h) (by kernel_rfl) (listed' := #[true, true, true, true, true, true, true, true, true, true, true, false, false, false, false, false]) rfl ?_
          refine StD.takeNot (i := 11) rfl rfl rfl rfl (by rintro _ _ _ ⟨_, _, _, _, h, _⟩; cases h) (by kernel_rfl) (listed' := #[true, true, true, true, true, true, true, true, true, true, true, true, false, false, false, false]) rfl ?_
          refine StD.takeNot (i := 12) rfl rfl rfl rfl (by rintro _ _ _ ⟨_, _, _, _, h, _⟩; cases h) (by kernel_rfl) (listed' := #[true, true, true, true, true, true, true, true, true, true, true, true, true, false, false, false]) rfl ?_
          refine StD.takeNot (i := 13) rfl rfl rfl rfl (by rintro _ _ _ ⟨_, _, _, _, h, _⟩; cases h) (by kernel_rfl) (listed' := #[true, true, true, true, true, true, true, true, true, true, true, true, true, true, false, false]) rfl ?_
          refine StD.takeNot (i := 14) rfl rfl rfl rfl (by rintro _ _ _ ⟨_, _, _, _, h, _⟩; cases h) (by kernel_rfl) (listed' := #[true, true, true, true, true, true, true, true, true, true, true, true, true, true, true, false]) rfl ?_
          refine StD.takeP (i := 15) (v := (.bool false)) rfl (fun _ => Yields.pick_f rfl rfl) rfl rfl trivial (by rintro _ _ _ ⟨_, _, _, _, h, _⟩; cases h) (by kernel_rfl) (listed' := #[true, true, true, true, true, true, true, true, true, true, true, true, true, true, true, true]) rfl ?_
          refine StD.done (by kernel_rfl) ?_
          obtain rfl := sI hm
          intro a w ha hs
          exact ⟨ha.covers ⟨rfl, rfl, rfl, rfl, rfl, trivial⟩, (Among.of (Among.take 0 rfl rfl (Among.take 0 rfl rfl (Among.take 0 rfl rfl Among.none))) _ hs)⟩
        ·rintro a w ⟨ha, hs⟩
         replace hm := hk273
         refine St.use (?_ : St _ _ _ _ _ _) ha hs
         clear ha hs a w
         refine St.cond_b rfl ?_ ?_
         ·intro q294
          replace q294 : z272 = true := q294
          replace hm := iT hm q294
          refine St.skip ?_
          refine St.norm ?_
          refine St.block ?_
          refine St.seq ?_
          refine St.region ?_
          refine St.val (v := (.slice A267 s262.1.length c268)) (Yields.move rfl) trivial rfl rfl ?_
          refine St.val (v := (.int .i64 s262.2)) (Yields.move rfl) trivial rfl rfl ?_
          obtain ⟨x295, e296, hm⟩ := bS hm
          obtain ⟨jx297, jx298, cs299, R300, k301⟩ := h269.idx e296
          obtain rfl := R300
          refine St.rowo_at 2 rfl (by omega) ?_
          intro hA302
          refine St.val (v := (.pointer (some ⟨bk A267, bo A267 + s262.2.toNat * 1, none⟩))) (Yields.idx (IdxAt.own hA302 jx297 jx298) ts26 rfl rfl) trivial rfl rfl ?_
          obtain ⟨x305, e306, hm⟩ := bS hm
          refine St.putK1 (R := [blk b3 (.cells #[.slice pA0_0 a0.Doms.length pc0_0, .slice pA0_1 a0.Limits.length pc0_1] 25 (0, 0)), rowo A230 z228.length c231 26 1 cells233]) e306 h269 (show ((Kind.int .i64)).R _ [.int .i64 0] 0 from rfl) rfl rfl rfl 2 rfl rfl tc3 rfl trivial ?_
          intro cells304 h303
          try rw [upd_len e306]
          refine St.nil ?_
          refine St.norm ?_
          refine St.region ?_
          refine St.val (v := (.int .i64 s262.2)) (Yields.move rfl) trivial rfl rfl ?_
          refine St.val (v := (.int .i64 (Mir.w64 (s262.2 - 1)))) (Yields.subw rfl rfl) trivial rfl rfl ?_
          refine St.val (v := (.int .i64 (Mir.w64 (s262.2 - 1)))) (Yields.assign rfl) trivial rfl rfl ?_
          refine St.nil ?_
          refine St.innorm ?_
          refine St.norm ?_
          obtain rfl := sI hm
          intro a w ha hs
          exact ⟨(x305, Mir.w64 (s262.2 - 1)), aL ho265, A267, c268, cells304, h303, (Bnd.of_upd b271 e306), ha.covers ⟨rfl, rfl, rfl, rfl, trivial⟩, (Among.of (Among.take 1 rfl rfl (Among.take 1 rfl rfl (Among.take 0 rfl rfl Among.none))) _ hs)⟩
         ·intro q307
          replace q307 : ¬ (z272 = true) := bf q307
          replace hm := iF hm q307
          refine St.exit ?_
          refine St.thenexit ?_
          refine St.thenexit ?_
          refine St.inexit ?_
          obtain rfl := sI hm
          obtain rfl := aR ho265
          intro a w ha hs
          exact ⟨A267, c268, cells270, h269, b271, ha.covers ⟨rfl, rfl, rfl, rfl, trivial⟩, (Among.of (Among.take 0 rfl rfl (Among.take 0 rfl rfl (Among.take 0 rfl rfl Among.none))) _ hs)⟩
      ·rintro a w ⟨A248, c249, cells251, h250, b252, ha, hs⟩
       replace hm := hk253
       refine St.use (?_ : St _ _ _ _ _ _) ha hs
       clear ha hs a w
       refine St.seq ?_
       refine St.seq ?_
       refine St.region ?_
       refine St.val (v := (.int .i64 z246.2)) (Yields.move rfl) trivial rfl rfl ?_
       refine St.val (v := (.bool (decide (z246.2 < 0)))) (Yields.lt rfl rfl) trivial rfl rfl ?_
       refine St.nil ?_
       refine St.norm ?_
       refine St.cond_b rfl ?_ ?_
       ·intro q308
        replace q308 : z246.2 < 0 := of_decide_eq_true q308
        replace hm := iT hm q308
        refine St.seq ?_
        refine St.region ?_
        refine St.val (v := (.slice A230 z228.length c231)) (Yields.move rfl) trivial rfl rfl ?_
        refine St.val (v := (.slice A230 z228.length c231)) (Yields.assign rfl) trivial rfl rfl ?_
        refine St.nil ?_
        refine St.norm ?_
        refine St.ret ?_
        refine St.thenret ?_
        refine St.inret ?_
        refine St.thenret ?_
        refine St.inret ?_
        refine St.frz 1 rfl rfl rfl h232 b234 ?_
        intro F309 l310 h311
        obtain rfl := sI hm
        obtain rfl := aR ho53
        exact St.doneR1 rfl rfl ⟨A230, c231, rfl, h311, rfl⟩ (fun w hs => Among.of Among.none w hs)
       ·intro q312
        replace q312 : ¬ (z246.2 < 0) := of_decide_eq_false q312
        replace hm := iF hm q312
        refine St.skip ?_
        refine St.norm ?_
        refine St.region ?_
        refine St.val (v := (.slice A248 z246.1.length c249)) (Yields.move rfl) trivial rfl rfl ?_
        refine St.val (v := (.int .i64 z246.2)) (Yields.move rfl) trivial rfl rfl ?_
        obtain ⟨x313, e314, hm⟩ := bS hm
        obtain ⟨jx315, jx316, cs317, R318, k319⟩ := h250.idx e314
        obtain rfl := R318
        refine St.rowo_at 2 rfl (by omega) ?_
        intro hA320
        refine St.val (v := (.pointer (some ⟨bk A248, bo A248 + z246.2.toNat * 1, none⟩))) (Yields.idx (IdxAt.own hA320 jx315 jx316) ts26 rfl rfl) trivial rfl rfl ?_
        refine St.val (v := (.int .i64 x313)) (Yields.load rfl (Loads.rA1 2 rfl tc3 (k319 0 _ rfl))) trivial rfl rfl ?_
        refine St.val (v := (.int .i64 (Mir.w64 (x313 + 1)))) (Yields.addw rfl rfl) trivial rfl rfl ?_
        obtain ⟨x321, e322, hm⟩ := bS hm
        obtain ⟨jx323, jx324, cs325, R326, k327⟩ := h250.idx e322
        obtain rfl := R326
        refine St.val (v := (.pointer (some ⟨bk A248, bo A248 + z246.2.toNat * 1, none⟩))) (Yields.idx (IdxAt.own hA320 jx323 jx324) ts26 rfl rfl) trivial rfl rfl ?_
        obtain ⟨x330, e331, hm⟩ := bS hm
        refine St.putK1 (R := [blk b3 (.cells #[.slice pA0_0 a0.Doms.length pc0_0, .slice pA0_1 a0.Limits.length pc0_1] 25 (0, 0)), rowo A230 z228.length c231 26 1 cells233]) e331 h250 (show ((Kind.int .i64)).R _ [.int .i64 (Mir.w64 (x313 + 1))] (Mir.w64 (x313 + 1)) from rfl) rfl rfl rfl 2 rfl rfl tc3 rfl trivial ?_
        intro cells329 h328
        try rw [upd_len e331]
        refine St.nil ?_
        refine St.innorm ?_
        refine St.norm ?_
        obtain rfl := sI hm
        intro a w ha hs
        exact ⟨(z228, x330), aL ho53, A230, c231, cells233, A248, c249, cells329, F135, (PH.le_trans l67 l136), h232, b234, h328, (Bnd.of_upd b252 e331), ha.covers ⟨rfl, rfl, rfl, trivial⟩, (Among.of (Among.take 1 rfl rfl (Among.take 1 rfl rfl (Among.take 0 rfl rfl Among.none))) _ hs)⟩

theorem m_domain_has_sp {F : PH} {g : Nat} {a0 : List Int} {a1 : Int} {pA0 : Option Addr} {pc0 : Nat} (ph0 : Fsl 8 (Kind.int .i64) F pA0 pc0 a0) {r : Bool} (hm : m_domain_has g a0 a1 = some r) :
  CallSp Try.prog 33 #[.slice pA0 a0.length pc0, .int .i64 a1] F [] (fun u F' H' => u = (.bool r) ∧ H' = []) := by
 unfold m_domain_has at hm
 refine CallSp.enter (args := [.slice pA0 a0.length pc0, .int .i64 a1]) Try.func33 rfl rfl ?_
 intro w0 m0 hm0
 refine St.seq ?_
 refine St.region ?_
 refine St.val (v := (.bool false)) (Yields.assign rfl) trivial rfl rfl ?_
 refine St.nil ?_
 refine St.norm ?_
 obtain ⟨o3, hm, ho4⟩ := jS hm
 refine St.cutI (fun a w => ∃ z2 : Unit, o3 = .inl z2 ∧ Has Try.f33.ntmps a [] ∧ Sat ⟨w0, fun b => m0 b ≠ none, F⟩ F [] w) ?_ ?_
 ·skip
  refine St.seq ?_
  refine St.region ?_
  refine St.val (v := (.slice pA0 a0.length pc0)) (Yields.move rfl) trivial rfl rfl ?_
  refine St.val (v := (.int .i64 ((a0.length : Nat) : Int))) (Yields.lenSlice tu26 rfl) trivial rfl rfl ?_
  refine St.val (v := (.int .i64 0)) (Yields.move rfl) trivial rfl rfl ?_
  refine St.nil ?_
  refine St.norm ?_
  refine St.block ?_
  refine St.loopM hm (fun s6 a w => Has Try.f33.ntmps a [(1, .int .i64 a1), (7, .slice pA0 a0.length pc0), (8, .int .i64 ((a0.length : Nat) : Int)), (9, .int .i64 ((s6 : Nat) : Int))] ∧ Sat ⟨w0, fun b => m0 b ≠ none, F⟩ F [] w) ?_ ?_
  ·skip
   intro a w ha hs
   exact ⟨ha.covers ⟨rfl, rfl, rfl, rfl, trivial⟩, (Among.of Among.none _ hs)⟩
  ·rintro s6 o7 co8 hm ho9 a w ⟨ha, hs⟩
   refine St.use (?_ : St _ _ _ _ _ _) ha hs
   clear ha hs a w
   refine St.seq ?_
   refine St.region ?_
   refine St.val (v := (.bool (decide (((s6 : Nat) : Int) < ((a0.length : Nat) : Int))))) (Yields.lt rfl rfl) trivial rfl rfl ?_
   refine St.nil ?_
   refine St.norm ?_
   refine St.seq ?_
   refine St.cond_b rfl ?_ ?_
   ·intro q10
    replace q10 : ((s6 : Nat) : Int) < ((a0.length : Nat) : Int) := of_decide_eq_true q10
    replace hm := iT hm q10
    refine St.skip ?_
    refine St.norm ?_
    refine St.seq ?_
    refine St.block ?_
    refine St.seq ?_
    refine St.region ?_
    obtain ⟨x11, e12, hm⟩ := bS hm
    obtain ⟨p13, cs14, jx15, R16, k17⟩ := ph0.nidx e12
    obtain rfl := R16
    refine St.val (v := (.pointer (some p13))) (Yields.idx jx15 ts26 rfl rfl) trivial rfl rfl ?_
    refine St.val (v := (.int .i64 x11)) (Yields.load rfl (Loads.Fat k17 tc3 rfl)) trivial rfl rfl ?_
    refine St.val (v := (.int .i64 x11)) (Yields.assign rfl) trivial rfl rfl ?_
    refine St.nil ?_
    refine St.norm ?_
    refine St.seq ?_
    refine St.region ?_
    refine St.val (v := (.int .i64 x11)) (Yields.move rfl) trivial rfl rfl ?_
    refine St.val (v := (.int .i64 a1)) (Yields.move rfl) trivial rfl rfl ?_
    refine St.val (v := (.bool (decide (x11 = a1)))) (Yields.eq rfl rfl) trivial rfl rfl ?_
    refine St.nil ?_
    refine St.norm ?_
    refine St.cond_b rfl ?_ ?_
    ·intro q18
     replace q18 : x11 = a1 := of_decide_eq_true q18
     replace hm := iT hm q18
     refine St.seq ?_
     refine St.region ?_
     refine St.val (v := (.bool true)) (Yields.assign rfl) trivial rfl rfl ?_
     refine St.nil ?_
     refine St.norm ?_
     refine St.ret ?_
     refine St.inret ?_
     refine St.thenret ?_
     refine St.thenret ?_
     refine St.inret ?_
     refine St.thenret ?_
     obtain rfl := sI hm
     obtain rfl := aR ho9
     obtain rfl := aR ho4
     exact St.doneR1 rfl rfl ⟨rfl, rfl⟩ (fun w hs => Among.of Among.none w hs)
    ·intro q19
     replace q19 : ¬ (x11 = a1) := of_decide_eq_false q19
     replace hm := iF hm q19
     refine St.skip ?_
     refine St.innorm ?_
     refine St.norm ?_
     refine St.region ?_
     refine St.val (v := (.int .i64 ((s6 + 1 : Nat) : Int))) (Yields.addn (j := 1) rfl rfl rfl (by have q_0 := q10; have q_1 := ph0.bnd.2; omega)) trivial rfl rfl ?_
     refine St.val (v := (.int .i64 ((s6 + 1 : Nat) : Int))) (Yields.move rfl) trivial rfl rfl ?_
     refine St.nil ?_
     refine St.norm ?_
     obtain rfl := sI hm
     intro a w ha hs
     exact ⟨s6 + 1, aL ho9, ha.covers ⟨rfl, rfl, rfl, rfl, trivial⟩, (Among.of Among.none _ hs)⟩
   ·intro q20
    replace q20 : ¬ (((s6 : Nat) : Int) < ((a0.length : Nat) : Int)) := of_decide_eq_false q20
    replace hm := iF hm q20
    refine St.exit ?_
    refine St.thenexit ?_
    refine St.thenexit ?_
    refine St.inexit ?_
    obtain rfl := sI hm
    obtain rfl := aR ho9
    intro a w ha hs
    exact ⟨(), rfl, ha.covers trivial, (Among.of Among.none _ hs)⟩
 ·rintro a w ⟨z2, rfl, ha, hs⟩
  replace hm := aL ho4
  refine St.use (?_ : St _ _ _ _ _ _) ha hs
  clear ha hs a w
  refine St.seq ?_
  refine St.region ?_
  refine St.val (v := (.bool false)) (Yields.assign rfl) trivial rfl rfl ?_
  refine St.nil ?_
  refine St.norm ?_
  refine St.ret ?_
  obtain rfl := sI hm
  exact St.doneR1 rfl rfl ⟨rfl, rfl⟩ (fun w hs => Among.of Among.none w hs)

theorem m_domain_chosen_sp {F : PH} {g : Nat} {a0 : DLimit} {a1 : List Int} {pA0_0 : Option Addr} {pc0_0 : Nat} {pA0_1 : Option Addr} {pc0_1 : Nat} {pA0_2 : Option Addr} {pc0_2 : Nat} {pA1 : Option Addr} {pc1 : Nat} (ph0_0 : Fsl 8 (Kind.int .i64) F pA0_0 pc0_0 a0.Vars) (ph0_1 : Fsl 8 (Kind.int .i64) F pA0_1 pc0_1 a0.A) (ph0_2 : Fsl 24 (Kind.sl 8 (Kind.int .i64)) F pA0_2 pc0_2 a0.Rows) (ph1 : Fsl 8 (Kind.int .i64) F pA1 pc1 a1) {r : List Int} (hm : m_domain_chosen g a0 a1 = some r) :
  CallSp Try.prog 35 #[.agg #[.int .i64 a0.Kind, .slice pA0_0 a0.Vars.length pc0_0, .slice pA0_1 a0.A.length pc0_1, .int .i64 a0.B, .slice pA0_2 a0.Rows.length pc0_2], .slice pA1 a1.length pc1] F [] (fun u F' H' => ∃ (B0 : Option Addr) (d0 : Nat), u = (.slice B0 r.length d0) ∧ Fsl 8 (Kind.int .i64) F' B0 d0 r ∧ H' = []) := by
 unfold m_domain_chosen at hm
 refine CallSp.enter (args := [.agg #[.int .i64 a0.Kind, .slice pA0_0 a0.Vars.length pc0_0, .slice pA0_1 a0.A.length pc0_1, .int .i64 a0.B, .slice pA0_2 a0.Rows.length pc0_2], .slice pA1 a1.length pc1]) Try.func35 rfl rfl ?_
 intro w0 m0 hm0
 refine St.seq ?_
 refine St.region ?_
 refine St.box rfl trivial rfl ?_
 intro b5
 refine St.val (v := (.slice none 0 0)) (Yields.assign rfl) trivial rfl rfl ?_
 refine St.nil ?_
 refine St.norm ?_
 refine St.seq ?_
 refine St.region ?_
 refine St.val (v := (.slice none 0 0)) (Yields.assign rfl) trivial rfl rfl ?_
 refine St.nil ?_
 refine St.norm ?_
 obtain ⟨z6, hm, hk13⟩ := bS hm
 refine St.cutI (fun a w => ∃ (A8 : Option Addr) (c9 : Nat) (cells11 : List Value), Cat (Kind.int .i64) F cells11 z6 ∧ Bnd 8 z6 ∧ Has Try.f35.ntmps a [(5, .slice A8 z6.length c9)] ∧ Sat ⟨w0, fun b => m0 b ≠ none, F⟩ F [rowo A8 z6.length c9 3 1 cells11] w) ?_ ?_
 ·skip
  refine St.seq ?_
  refine St.region ?_
  refine St.val (v := (.pointer (some ⟨b5, 1, none⟩))) (Yields.fieldAddr (v := (.pointer (some ⟨b5, 1, none⟩))) rfl (fun _ => by kernel_rfl)) trivial rfl rfl ?_
  refine St.val (v := (.slice pA0_0 a0.Vars.length pc0_0)) (Yields.load rfl (Loads.H1 0 rfl tc26 rfl)) trivial rfl rfl ?_
  refine St.val (v := (.int .i64 ((a0.Vars.length : Nat) : Int))) (Yields.lenSlice tu26 rfl) trivial rfl rfl ?_
  refine St.val (v := (.int .i64 0)) (Yields.move rfl) trivial rfl rfl ?_
  refine St.nil ?_
  refine St.norm ?_
  refine St.block ?_
  refine St.loopM hm (fun s22 a w => ∃ (A27 : Option Addr) (c28 : Nat) (cells30 : List Value), Cat (Kind.int .i64) F cells30 s22.1 ∧ Bnd 8 s22.1 ∧ Has Try.f35.ntmps a [(1, .slice pA1 a1.length pc1), (5, .slice A27 s22.1.length c28), (9, .slice pA0_0 a0.Vars.length pc0_0), (10, .int .i64 ((a0.Vars.length : Nat) : Int)), (11, .int .i64 ((s22.2 : Nat) : Int))] ∧ Sat ⟨w0, fun b => m0 b ≠ none, F⟩ F [rowo A27 s22.1.length c28 3 1 cells30] w) ?_ ?_
  ·skip
   refine St.rowo_new 3 1 ?_
   intro a w ha hs
   exact ⟨none, 0, [], (show Cat (Kind.int .i64) _ [] [] from rfl), Bnd.of_nil, ha.covers ⟨rfl, rfl, rfl, rfl, rfl, trivial⟩, (Among.of (Among.take 0 rfl rfl Among.none) _ hs)⟩
  ·rintro s22 o23 co24 hm ho25 a w ⟨A27, c28, cells30, h29, b31, ha, hs⟩
   refine St.use (?_ : St _ _ _ _ _ _) ha hs
   clear ha hs a w
   refine St.seq ?_
   refine St.region ?_
   refine St.val (v := (.bool (decide (((s22.2 : Nat) : Int) < ((a0.Vars.length : Nat) : Int))))) (Yields.lt rfl rfl) trivial rfl rfl ?_
   refine St.nil ?_
   refine St.norm ?_
   refine St.seq ?_
   refine St.cond_b rfl ?_ ?_
   ·intro q33
    replace q33 : ((s22.2 : Nat) : Int) < ((a0.Vars.length : Nat) : Int) := of_decide_eq_true q33
    replace hm := iT hm q33
    refine St.skip ?_
    refine St.norm ?_
    refine St.seq ?_
    refine St.block ?_
    refine St.seq ?_
    refine St.region ?_
    obtain ⟨x34, e35, hm⟩ := bS hm
    obtain ⟨p36, cs37, jx38, R39, k40⟩ := ph0_0.nidx e35
    obtain rfl := R39
    refine St.val (v := (.pointer (some p36))) (Yields.idx jx38 ts26 rfl rfl) trivial rfl rfl ?_
    refine St.val (v := (.int .i64 x34)) (Yields.load rfl (Loads.Fat k40 tc3 rfl)) trivial rfl rfl ?_
    refine St.val (v := (.int .i64 x34)) (Yields.assign rfl) trivial rfl rfl ?_
    refine St.nil ?_
    refine St.norm ?_
    refine St.region ?_
    refine St.val (v := (.slice A27 s22.1.length c28)) (Yields.move rfl) trivial rfl rfl ?_
    refine St.val (v := (.slice pA1 a1.length pc1)) (Yields.move rfl) trivial rfl rfl ?_
    refine St.val (v := (.int .i64 x34)) (Yields.move rfl) trivial rfl rfl ?_
    obtain ⟨x41, e42, hm⟩ := bS hm
    obtain ⟨p43, cs44, jx45, R46, k47⟩ := ph1.idx e42
    obtain rfl := R46
    refine St.val (v := (.pointer (some p43))) (Yields.idx jx45 ts26 rfl rfl) trivial rfl rfl ?_
    refine St.val (v := (.int .i64 x41)) (Yields.load rfl (Loads.Fat k47 tc3 rfl)) trivial rfl rfl ?_
    refine St.buildSlice (e := 3) (cells := #[.int .i64 x41]) (vs := #[(0, .int .i64 x41)]) (fun _ ha => evp1 ha rfl) (fun _ => by kernel_rfl) rfl trivial ?_
    intro b48
    obtain ⟨x53, e54, hm⟩ := bS hm
    refine St.pushL (R := [blk b48 (.cells #[.int .i64 x41] 3 (0, 0))]) (R3 := []) e54 ts26 rfl rfl rfl rfl rfl 1 rfl rfl 0 rfl 0 rfl rfl h29 ⟨[.int .i64 x41], _, rfl, rfl, rfl⟩ rfl trivial ?_
    intro A49 c50 cells51 h52
    refine St.val (v := (.slice A49 x53.length c50)) (Yields.assign rfl) trivial rfl rfl ?_
    refine St.nil ?_
    refine St.innorm ?_
    refine St.norm ?_
    refine St.region ?_
    refine St.val (v := (.int .i64 ((s22.2 + 1 : Nat) : Int))) (Yields.addn (j := 1) rfl rfl rfl (by have q_0 := q33; have q_1 := ph0_0.bnd.2; omega)) trivial rfl rfl ?_
    refine St.val (v := (.int .i64 ((s22.2 + 1 : Nat) : Int))) (Yields.move rfl) trivial rfl rfl ?_
    refine St.nil ?_
    refine St.norm ?_
    obtain rfl := sI hm
    intro a w ha hs
    exact ⟨(x53, s22.2 + 1), aL ho25, A49, c50, cells51, h52, (Bnd.of_push e54), ha.covers ⟨rfl, rfl, rfl, rfl, rfl, trivial⟩, (Among.of (Among.take 0 rfl rfl Among.none) _ hs)⟩
   ·intro q56
    replace q56 : ¬ (((s22.2 : Nat) : Int) < ((a0.Vars.length : Nat) : Int)) := of_decide_eq_false q56
    replace hm := iF hm q56
    refine St.exit ?_
    refine St.thenexit ?_
    refine St.thenexit ?_
    refine St.inexit ?_
    obtain rfl := sI hm
    obtain rfl := aR ho25
    intro a w ha hs
    exact ⟨A27, c28, cells30, h29, b31, ha.covers ⟨rfl, trivial⟩, (Among.of (Among.take 0 rfl rfl Among.none) _ hs)⟩
 ·rintro a w ⟨A8, c9, cells11, h10, b12, ha, hs⟩
  replace hm := hk13
  refine St.use (?_ : St _ _ _ _ _ _) ha hs
  clear ha hs a w
  refine St.seq ?_
  refine St.region ?_
  refine St.val (v := (.slice A8 z6.length c9)) (Yields.move rfl) trivial rfl rfl ?_
  refine St.val (v := (.slice A8 z6.length c9)) (Yields.assign rfl) trivial rfl rfl ?_
  refine St.nil ?_
  refine St.norm ?_
  refine St.ret ?_
  refine St.frz 0 rfl rfl rfl h10 b12 ?_
  intro F57 l58 h59
  obtain rfl := sI hm
  exact St.doneR1 rfl rfl ⟨A8, c9, rfl, h59, rfl⟩ (fun w hs => Among.of Among.none w hs)

theorem m_domain_Holds_sp {F : PH} {g : Nat} {a0 : DProblem} {a1 : List Int} {pA0_0 : Option Addr} {pc0_0 : Nat} {pA0_1 : Option Addr} {pc0_1 : Nat} {pA1 : Option Addr} {pc1 : Nat} (ph0_0 : Fsl 24 (Kind.sl 8 (Kind.int .i64)) F pA0_0 pc0_0 a0.Doms) (ph0_1 : Fsl 88 KDLimit F pA0_1 pc0_1 a0.Limits) (ph1 : Fsl 8 (Kind.int .i64) F pA1 pc1 a1) {r : Bool × Int × Int} (hm : m_domain_Holds g a0 a1 = some r) :
  CallSp Try.prog 14 #[.agg #[.slice pA0_0 a0.Doms.length pc0_0, .slice pA0_1 a0.Limits.length pc0_1], .slice pA1 a1.length pc1] F [] (fun u F' H' => u = (.tuple #[.bool r.1, .int .i64 r.2.1, .int .i64 r.2.2]) ∧ H' = []) := by
 unfold m_domain_Holds at hm
 refine CallSp.enter (args := [.agg #[.slice pA0_0 a0.Doms.length pc0_0, .slice pA0_1 a0.Limits.length pc0_1], .slice pA1 a1.length pc1]) Try.func14 rfl rfl ?_
 intro w0 m0 hm0
 refine St.seq ?_
 refine St.region ?_
 refine St.box rfl trivial rfl ?_
 intro b4
 refine St.val (v := (.bool false)) (Yields.assign rfl) trivial rfl rfl ?_
 refine St.val (v := (.int .i64 0)) (Yields.assign rfl) trivial rfl rfl ?_
 refine St.val (v := (.int .i64 0)) (Yields.assign rfl) trivial rfl rfl ?_
 refine St.nil ?_
 refine St.norm ?_
 refine St.seq ?_
 refine St.seq ?_
 refine St.region ?_
 refine St.val (v := (.agg #[.slice pA0_0 a0.Doms.length pc0_0, .slice pA0_1 a0.Limits.length pc0_1])) (Yields.load rfl (Loads.Hk (vs := [.slice pA0_0 a0.Doms.length pc0_0, .slice pA0_1 a0.Limits.length pc0_1]) 0 rfl ta25 rfl rfl)) trivial rfl rfl ?_
 obtain ⟨q5, e6, hm⟩ := bS hm
 refine St.call [blk b4 (.cells #[.slice pA0_0 a0.Doms.length pc0_0, .slice pA0_1 a0.Limits.length pc0_1] 25 (0, 0))] (m_domain_Validate_sp (a0 := a0) ph0_0 ph0_1 e6) rfl (fun _ ha => ev1 ha rfl) rfl en6 rfl rfl trivial ?_
 rintro _ F7 _ ⟨rfl, rfl⟩ l8
 refine St.val (v := (.int .i64 q5)) (Yields.assign rfl) trivial rfl rfl ?_
 refine St.nil ?_
 refine St.norm ?_
 refine St.seq ?_
 refine St.region ?_
 refine St.val (v := (.int .i64 q5)) (Yields.move rfl) trivial rfl rfl ?_
 refine St.val (v := (.bool (!decide (q5 = 0)))) (Yields.ne rfl rfl) trivial rfl rfl ?_
 refine St.nil ?_
 refine St.norm ?_
 refine St.cond_b rfl ?_ ?_
 ·intro q9
  replace q9 : ¬ (q5 = 0) := nd_t q9
  replace hm := iF hm q9
  refine St.seq ?_
  refine St.region ?_
  refine St.val (v := (.int .i64 q5)) (Yields.move rfl) trivial rfl rfl ?_
  refine St.val (v := (.bool false)) (Yields.assign rfl) trivial rfl rfl ?_
  refine St.val (v := (.int .i64 0)) (Yields.assign rfl) trivial rfl rfl ?_
  refine St.val (v := (.int .i64 q5)) (Yields.assign rfl) trivial rfl rfl ?_
  refine St.nil ?_
  refine St.norm ?_
  refine St.ret ?_
  refine St.thenret ?_
  obtain rfl := sI hm
  exact St.doneR3 rfl rfl rfl rfl ⟨rfl, rfl⟩ (fun w hs => Among.of Among.none w hs)
 ·intro q10
  replace q10 : q5 = 0 := nd_f q10
  replace hm := iT hm q10
  refine St.skip ?_
  refine St.norm ?_
  refine St.seq ?_
  refine St.seq ?_
  refine St.region ?_
  refine St.val (v := (.slice pA1 a1.length pc1)) (Yields.move rfl) trivial rfl rfl ?_
  refine St.val (v := (.int .i64 ((a1.length : Nat) : Int))) (Yields.lenSlice tu26 rfl) trivial rfl rfl ?_
  refine St.val (v := (.pointer (some ⟨b4, 0, none⟩))) (Yields.fieldAddr (v := (.pointer (some ⟨b4, 0, none⟩))) rfl (fun _ => by kernel_rfl)) trivial rfl rfl ?_
  refine St.val (v := (.slice pA0_0 a0.Doms.length pc0_0)) (Yields.load rfl (Loads.H1 0 rfl tc22 rfl)) trivial rfl rfl ?_
  refine St.val (v := (.int .i64 ((a0.Doms.length : Nat) : Int))) (Yields.lenSlice tu22 rfl) trivial rfl rfl ?_
  refine St.val (v := (.bool (!decide (((a1.length : Nat) : Int) = ((a0.Doms.length : Nat) : Int))))) (Yields.ne rfl rfl) trivial rfl rfl ?_
  refine St.nil ?_
  refine St.norm ?_
  refine St.cond_b rfl ?_ ?_
  ·intro q11
   replace q11 : ¬ (((a1.length : Nat) : Int) = ((a0.Doms.length : Nat) : Int)) := nd_t q11
   replace hm := iF hm q11
   refine St.seq ?_
   refine St.region ?_
   refine St.val (v := (.bool false)) (Yields.assign rfl) trivial rfl rfl ?_
   refine St.val (v := (.int .i64 0)) (Yields.assign rfl) trivial rfl rfl ?_
   refine St.val (v := (.int .i64 8)) (Yields.assign rfl) trivial rfl rfl ?_
   refine St.nil ?_
   refine St.norm ?_
   refine St.ret ?_
   refine St.thenret ?_
   obtain rfl := sI hm
   exact St.doneR3 rfl rfl rfl rfl ⟨rfl, rfl⟩ (fun w hs => Among.of Among.none w hs)
  ·intro q12
   replace q12 : ((a1.length : Nat) : Int) = ((a0.Doms.length : Nat) : Int) := nd_f q12
   replace hm := iT hm q12
   refine St.skip ?_
   refine St.norm ?_
   obtain ⟨o16, hm, ho17⟩ := jS hm
   refine St.cutI (fun a w => ∃ z13 : Unit, o16 = .inl z13 ∧ ∃ (F14 : PH), PH.le F7 F14 ∧ Has Try.f14.ntmps a [(1, .slice pA1 a1.length pc1), (2, .pointer (some ⟨b4, 0, none⟩))] ∧ Sat ⟨w0, fun b => m0 b ≠ none, F⟩ F14 [blk b4 (.cells #[.slice pA0_0 a0.Doms.length pc0_0, .slice pA0_1 a0.Limits.length pc0_1] 25 (0, 0))] w) ?_ ?_
   ·skip
    refine St.seq ?_
    refine St.region ?_
    refine St.val (v := (.slice pA1 a1.length pc1)) (Yields.move rfl) trivial rfl rfl ?_
    refine St.val (v := (.int .i64 ((a1.length : Nat) : Int))) (Yields.lenSlice tu26 rfl) trivial rfl rfl ?_
    refine St.val (v := (.int .i64 0)) (Yields.move rfl) trivial rfl rfl ?_
    refine St.nil ?_
    refine St.norm ?_
    refine St.block ?_
    refine St.loopM hm (fun s20 a w => ∃ (F24 : PH), PH.le F7 F24 ∧ Has Try.f14.ntmps a [(1, .slice pA1 a1.length pc1), (2, .pointer (some ⟨b4, 0, none⟩)), (23, .slice pA1 a1.length pc1), (24, .int .i64 ((a1.length : Nat) : Int)), (25, .int .i64 ((s20 : Nat) : Int))] ∧ Sat ⟨w0, fun b => m0 b ≠ none, F⟩ F24 [blk b4 (.cells #[.slice pA0_0 a0.Doms.length pc0_0, .slice pA0_1 a0.Limits.length pc0_1] 25 (0, 0))] w) ?_ ?_
    ·skip
     intro a w ha hs
     exact ⟨F7, (PH.le_refl _), ha.covers ⟨rfl, rfl, rfl, rfl, rfl, trivial⟩, (Among.of (Among.take 0 rfl rfl Among.none) _ hs)⟩
    ·rintro s20 o21 co22 hm ho23 a w ⟨F24, l25, ha, hs⟩
     refine St.use (?_ : St _ _ _ _ _ _) ha hs
     clear ha hs a w
     refine St.seq ?_
     refine St.region ?_
     refine St.val (v := (.bool (decide (((s20 : Nat) : Int) < ((a1.length : Nat) : Int))))) (Yields.lt rfl rfl) trivial rfl rfl ?_
     refine St.nil ?_
     refine St.norm ?_
     refine St.seq ?_
     refine St.cond_b rfl ?_ ?_
     ·intro q26
      replace q26 : ((s20 : Nat) : Int) < ((a1.length : Nat) : Int) := of_decide_eq_true q26
      replace hm := iT hm q26
      refine St.skip ?_
      refine St.norm ?_
      refine St.seq ?_
      refine St.block ?_
      refine St.seq ?_
      refine St.region ?_
      refine St.val (v := (.int .i64 ((s20 : Nat) : Int))) (Yields.move rfl) trivial rfl rfl ?_
      obtain ⟨x27, e28, hm⟩ := bS hm
      obtain ⟨p29, cs30, jx31, R32, k33⟩ := (Fsl.mono (PH.le_trans l8 l25) ph1).nidx e28
      obtain rfl := R32
      refine St.val (v := (.pointer (some p29))) (Yields.idx jx31 ts26 rfl rfl) trivial rfl rfl ?_
      refine St.val (v := (.int .i64 x27)) (Yields.load rfl (Loads.Fat k33 tc3 rfl)) trivial rfl rfl ?_
      refine St.val (v := (.int .i64 ((s20 : Nat) : Int))) (Yields.assign rfl) trivial rfl rfl ?_
      refine St.val (v := (.int .i64 x27)) (Yields.assign rfl) trivial rfl rfl ?_
      refine St.nil ?_
      refine St.norm ?_
      refine St.seq ?_
      refine St.region ?_
      refine St.val (v := (.pointer (some ⟨b4, 0, none⟩))) (Yields.fieldAddr (v := (.pointer (some ⟨b4, 0, none⟩))) rfl (fun _ => by kernel_rfl)) trivial rfl rfl ?_
      refine St.val (v := (.slice pA0_0 a0.Doms.length pc0_0)) (Yields.load rfl (Loads.H1 0 rfl tc22 rfl)) trivial rfl rfl ?_
      refine St.val (v := (.int .i64 ((s20 : Nat) : Int))) (Yields.move rfl) trivial rfl rfl ?_
      obtain ⟨x34, e35, hm⟩ := bS hm
      obtain ⟨p36, cs37, jx38, R39, k40⟩ := (Fsl.mono (PH.le_trans l8 l25) ph0_0).nidx e35
      obtain ⟨A41, c42, rfl, h43⟩ := R39
      refine St.val (v := (.pointer (some p36))) (Yields.idx jx38 ts22 rfl rfl) trivial rfl rfl ?_
      refine St.val (v := (.slice A41 x34.length c42)) (Yields.load rfl (Loads.Fat k40 tc26 rfl)) trivial rfl rfl ?_
      refine St.val (v := (.int .i64 x27)) (Yields.move rfl) trivial rfl rfl ?_
      obtain ⟨q45, e46, hm⟩ := bS hm
      refine St.call [blk b4 (.cells #[.slice pA0_0 a0.Doms.length pc0_0, .slice pA0_1 a0.Limits.length pc0_1] 25 (0, 0))] (m_domain_has_sp h43 e46) rfl (fun _ ha => ev2 ha rfl rfl) rfl en33 rfl rfl trivial ?_
      rintro _ F47 _ ⟨rfl, rfl⟩ l48
      refine St.val (v := (.bool (!q45))) (Yields.not rfl) trivial rfl rfl ?_
      refine St.nil ?_
      refine St.norm ?_
      refine St.cond_b rfl ?_ ?_
      ·intro q49
       replace q49 : ¬ (q45 = true) := nb_t q49
       replace hm := iF hm q49
       refine St.seq ?_
       refine St.region ?_
       refine St.val (v := (.bool false)) (Yields.assign rfl) trivial rfl rfl ?_
       refine St.val (v := (.int .i64 (-1))) (Yields.assign rfl) trivial rfl rfl ?_
       refine St.val (v := (.int .i64 0)) (Yields.assign rfl) trivial rfl rfl ?_
       refine St.nil ?_
       refine St.norm ?_
       refine St.ret ?_
       refine St.inret ?_
       refine St.thenret ?_
       refine St.thenret ?_
       refine St.inret ?_
       refine St.thenret ?_
       obtain rfl := sI hm
       obtain rfl := aR ho23
       obtain rfl := aR ho17
       exact St.doneR3 rfl rfl rfl rfl ⟨rfl, rfl⟩ (fun w hs => Among.of Among.none w hs)
      ·intro q50
       replace q50 : q45 = true := nb_f q50
       replace hm := iT hm q50
       refine St.skip ?_
       refine St.innorm ?_
       refine St.norm ?_
       refine St.region ?_
       refine St.val (v := (.int .i64 ((s20 + 1 : Nat) : Int))) (Yields.addn (j := 1) rfl rfl rfl (by have q_0 := q26; have q_1 := ph1.bnd.2; omega)) trivial rfl rfl ?_
       refine St.val (v := (.int .i64 ((s20 + 1 : Nat) : Int))) (Yields.move rfl) trivial rfl rfl ?_
       refine St.nil ?_
       refine St.norm ?_
       obtain rfl := sI hm
       intro a w ha hs
       exact ⟨s20 + 1, aL ho23, F47, (PH.le_trans l25 l48), ha.covers ⟨rfl, rfl, rfl, rfl, rfl, trivial⟩, (Among.of (Among.take 0 rfl rfl Among.none) _ hs)⟩
     ·intro q51
      replace q51 : ¬ (((s20 : Nat) : Int) < ((a1.length : Nat) : Int)) := of_decide_eq_false q51
      replace hm := iF hm q51
      refine St.exit ?_
      refine St.thenexit ?_
      refine St.thenexit ?_
      refine St.inexit ?_
      obtain rfl := sI hm
      obtain rfl := aR ho23
      intro a w ha hs
      exact ⟨(), rfl, F24, l25, ha.covers ⟨rfl, rfl, trivial⟩, (Among.of (Among.take 0 rfl rfl Among.none) _ hs)⟩
   ·rintro a w ⟨z13, rfl, F14, l15, ha, hs⟩
    replace hm := aL ho17
    refine St.use (?_ : St _ _ _ _ _ _) ha hs
    clear ha hs a w
    obtain ⟨o55, hm, ho56⟩ := jS hm
    refine St.cutI (fun a w => ∃ z52 : Unit, o55 = .inl z52 ∧ ∃ (F53 : PH), PH.le F14 F53 ∧ Has Try.f14.ntmps a [] ∧ Sat ⟨w0, fun b => m0 b ≠ none, F⟩ F53 [] w) ?_ ?_
    ·skip
     refine St.seq ?_
     refine St.region ?_
     refine St.val (v := (.pointer (some ⟨b4, 1, none⟩))) (Yields.fieldAddr (v := (.pointer (some ⟨b4, 1, none⟩))) rfl (fun _ => by kernel_rfl)) trivial rfl rfl ?_
     refine St.val (v := (.slice pA0_1 a0.Limits.length pc0_1)) (Yields.load rfl (Loads.H1 0 rfl tc23 rfl)) trivial rfl rfl ?_
     refine St.val (v := (.int .i64 ((a0.Limits.length : Nat) : Int))) (Yields.lenSlice tu23 rfl) trivial rfl rfl ?_
     refine St.val (v := (.int .i64 0)) (Yields.move rfl) trivial rfl rfl ?_
     refine St.nil ?_
     refine St.norm ?_
     refine St.block ?_
     refine St.loopM hm (fun s59 a w => ∃ (F63 : PH), PH.le F14 F63 ∧ Has Try.f14.ntmps a [(1, .slice pA1 a1.length pc1), (40, .slice pA0_1 a0.Limits.length pc0_1), (41, .int .i64 ((a0.Limits.length : Nat) : Int)), (42, .int .i64 ((s59 : Nat) : Int))] ∧ Sat ⟨w0, fun b => m0 b ≠ none, F⟩ F63 [] w) ?_ ?_
     ·skip
      intro a w ha hs
      exact ⟨F14, (PH.le_refl _), ha.covers ⟨rfl, rfl, rfl, rfl, trivial⟩, (Among.of Among.none _ hs)⟩
     ·rintro s59 o60 co61 hm ho62 a w ⟨F63, l64, ha, hs⟩
      refine St.use (?_ : St _ _ _ _ _ _) ha hs
      clear ha hs a w
      refine St.seq ?_
      refine St.region ?_
      refine St.val (v := (.bool (decide (((s59 : Nat) : Int) < ((a0.Limits.length : Nat) : Int))))) (Yields.lt rfl rfl) trivial rfl rfl ?_
      refine St.nil ?_
      refine St.norm ?_
      refine St.seq ?_
      refine St.cond_b rfl ?_ ?_
      ·intro q65
       replace q65 : ((s59 : Nat) : Int) < ((a0.Limits.length : Nat) : Int) := of_decide_eq_true q65
       replace hm := iT hm q65
       refine St.skip ?_
       refine St.norm ?_
       refine St.seq ?_
       refine St.block ?_
       refine St.seq ?_
       refine St.region ?_
       refine St.val (v := (.int .i64 ((s59 : Nat) : Int))) (Yields.move rfl) trivial rfl rfl ?_
       obtain ⟨x66, e67, hm⟩ := bS hm
       obtain ⟨p68, cs69, jx70, R71, k72⟩ := (Fsl.mono (PH.le_trans l8 (PH.le_trans l15 l64)) ph0_1).nidx e67
       obtain ⟨A73, c74, A76, c77, A79, c80, rfl, h75, h78, h81⟩ := DLimit.opn R71
       refine St.val (v := (.pointer (some p68))) (Yields.idx jx70 ts23 rfl rfl) trivial rfl rfl ?_
       refine St.val (v := (.agg #[.int .i64 x66.Kind, .slice A73 x66.Vars.length c74, .slice A76 x66.A.length c77, .int .i64 x66.B, .slice A79 x66.Rows.length c80])) (Yields.load rfl (Loads.Fatn0 k72 ta28)) trivial rfl rfl ?_
       refine St.alloc tz28 trivial rfl ?_
       intro b85
       refine St.val (v := (.int .i64 ((s59 : Nat) : Int))) (Yields.assign rfl) trivial rfl rfl ?_
       refine St.storen (R := []) rfl rfl 0 rfl rfl ta28 rfl rfl rfl trivial (cs' := #[.int .i64 x66.Kind, .slice A73 x66.Vars.length c74, .slice A76 x66.A.length c77, .int .i64 x66.B, .slice A79 x66.Rows.length c80]) rfl ?_
       refine St.nil ?_
       refine St.norm ?_
       obtain ⟨z86, hm, hk89⟩ := bS hm
       refine St.cutI (fun a w => ∃ (F87 : PH), PH.le F63 F87 ∧ Has Try.f14.ntmps a [(1, .slice pA1 a1.length pc1), (10, .int .i64 ((s59 : Nat) : Int)), (40, .slice pA0_1 a0.Limits.length pc0_1), (41, .int .i64 ((a0.Limits.length : Nat) : Int)), (42, .int .i64 ((s59 : Nat) : Int)), (56, .bool z86)] ∧ Sat ⟨w0, fun b => m0 b ≠ none, F⟩ F87 [] w) ?_ ?_
       ·skip
        refine StD.start [4, 8] [blk b85 (.cells #[.int .i64 x66.Kind, .slice A73 x66.Vars.length c74, .slice A76 x66.A.length c77, .int .i64 x66.B, .slice A79 x66.Rows.length c80] 28 (0, 0))] hmix ?_
        refine StD.take [3, 5, 6, 7, 9] (i := 0) (v := (.agg #[.int .i64 x66.Kind, .slice A73 x66.Vars.length c74, .slice A76 x66.A.length c77, .int .i64 x66.B, .slice A79 x66.Rows.length c80])) rfl (Yields.load rfl (Loads.Hk (vs := [.int .i64 x66.Kind, .slice A73 x66.Vars.length c74, .slice A76 x66.A.length c77, .int .i64 x66.B, .slice A79 x66.Rows.length c80]) 0 rfl ta28 rfl rfl)) rfl rfl trivial Among.refl (by rintro _ _ _ ⟨_, _, _, _, h, _⟩; cases h) (by kernel_rfl) (listed' := #[true, false, false, false, false, false, false, false, false, false]) rfl ?_
        refine StD.take [3, 5, 6, 7, 9] (i := 2) (v := (.agg #[.int .i64 x66.Kind, .slice A73 x66.Vars.length c74, .slice A76 x66.A.length c77, .int .i64 x66.B, .slice A79 x66.Rows.length c80])) rfl (Yields.load rfl (Loads.Hk (vs := [.int .i64 x66.Kind, .slice A73 x66.Vars.length c74, .slice A76 x66.A.length c77, .int .i64 x66.B, .slice A79 x66.Rows.length c80]) 0 rfl ta28 rfl rfl)) rfl rfl trivial Among.refl (by rintro _ _ _ ⟨_, _, _, _, h, _⟩; cases h) (by kernel_rfl) (listed' := #[true, false, true, false, false, false, false, false, false, false]) rfl ?_
        refine StD.takeP (i := 3) (v := (.slice pA1 a1.length pc1)) rfl (fun _ => Yields.move rfl) rfl rfl trivial (by rintro _ _ _ ⟨_, _, _, _, h, _⟩; cases h) (by kernel_rfl) (listed' := #[true, false, true, true, false, false, false, false, false, false]) rfl ?_
        refine StD.only (i := 1) rfl (by kernel_rfl) (listed' := #[true, true, true, true, false, false, false, false, false, false]) rfl ?_
        intro hcl90
        obtain ⟨q91, e92, hm⟩ := bS hm
        refine St.call [blk b85 (.cells #[.int .i64 x66.Kind, .slice A73 x66.Vars.length c74, .slice A76 x66.A.length c77, .int .i64 x66.B, .slice A79 x66.Rows.length c80] 28 (0, 0))] (m_domain_of_sp (a0 := x66) h75 h78 h81 e92) rfl (fun _ ha => ev1 ha rfl) rfl en34 rfl rfl trivial ?_
        rintro v95 F93 _ ⟨_, rfl, h96, rfl⟩ l94
        refine StD.next hcl90 (fun _ => (Among.of_le l94 (PH.le_trans l8 (PH.le_trans l15 l64)) (Among.take 0 rfl rfl Among.none))) ?_
        refine StD.takeP (i := 5) (v := (.func (.method "searchlight/domain.holds") #[v95] #[])) rfl (fun _ => Yields.makeFunc (fun _ ha => ev1 ha rfl) (fun _ _ => ev0)) rfl rfl trivial (by rintro _ _ _ ⟨_, _, _, _, h, _⟩; cases h) (by kernel_rfl) (listed' := #[true, true, true, true, false, true, false, false, false, false]) rfl ?_
        rcases ILimit.cases q91 with hx97 | ⟨y98, hx97⟩ | ⟨y99, hx97⟩ | ⟨y100, hx97⟩
        ·have h101 := h96
         rw [hx97] at hm h101; rw [ILimit.on_nil] at hm
         obtain rfl : v95 = .nilIface := h101
         exact nomatch (show (none : Option _) = some _ from hm)
        ·have h101 := h96
         rw [hx97] at hm h101; rw [ILimit.on_c78] at hm
         obtain ⟨cs102, R103, rfl⟩ := Ival.agg h101
         obtain rfl := DApart.opn R103
         refine StD.takeP (i := 6) (v := (.func (.method "searchlight/domain.holds") #[.iface 78 (.agg #[])] #[])) rfl (fun _ => Yields.nilCheckMeth ns78_holds rfl) rfl rfl trivial (by rintro _ _ _ ⟨_, _, _, _, h, _⟩; cases h) (by kernel_rfl) (listed' := #[true, true, true, true, false, true, true, false, false, false]) rfl ?_
         refine StD.takeP (i := 7) (v := (.iface 78 (.agg #[]))) rfl (fun _ => Yields.move rfl) rfl rfl trivial (by rintro _ _ _ ⟨_, _, _, _, h, _⟩; cases h) (by kernel_rfl) (listed' := #[true, true, true, true, false, true, true, true, false, false]) rfl ?_
         refine StD.only (i := 4) rfl (by kernel_rfl) (listed' := #[true, true, true, true, true, true, true, true, false, false]) rfl ?_
         intro hcl105
         obtain ⟨q106, e107, hm⟩ := bS hm
         refine St.call [blk b85 (.cells #[.int .i64 x66.Kind, .slice A73 x66.Vars.length c74, .slice A76 x66.A.length c77, .int .i64 x66.B, .slice A79 x66.Rows.length c80] 28 (0, 0))] (m_domain_chosen_sp (a0 := x66) (Fsl.mono l94 h75) (Fsl.mono l94 h78) (Fsl.mono l94 h81) (Fsl.mono (PH.le_trans l8 (PH.le_trans l15 (PH.le_trans l64 l94))) ph1) e107) rfl (fun _ ha => ev2 ha rfl rfl) rfl en35 rfl rfl trivial ?_
         rintro _ F108 _ ⟨A110, c111, rfl, h112, rfl⟩ l109
         refine StD.next hcl105 (fun h => by cases h) ?_
         refine StD.only (i := 8) rfl (by kernel_rfl) (listed' := #[true, true, true, true, true, true, true, true, true, false]) rfl ?_
         intro hcl114
         obtain ⟨q115, e116, hm⟩ := bS hm
         refine St.invoke [blk b85 (.cells #[.int .i64 x66.Kind, .slice A73 x66.Vars.length c74, .slice A76 x66.A.length c77, .int .i64 x66.B, .slice A79 x66.Rows.length c80] 28 (0, 0))] (m_domain_apart_holds_sp (a0 := (DApart.mk)) h112 e116) rfl (fun _ ha => ev1 ha rfl) rfl iv78_holds rfl rfl trivial ?_
         rintro _ F117 _ ⟨rfl, rfl⟩ l118
         refine StD.next hcl114 (fun h => by cases h) ?_
         refine StD.takeP (i := 9) (v := (.bool (!q115))) rfl (fun _ => Yields.not rfl) rfl rfl trivial (by rintro _ _ _ ⟨_, _, _, _, h, _⟩; cases h) (by kernel_rfl) (listed' := #[true, true, true, true, true, true, true, true, true, true]) rfl ?_
         refine StD.done (by kernel_rfl) ?_
         obtain rfl := sI hm
         intro a w ha hs
         exact ⟨F117, (PH.le_trans l94 (PH.le_trans l109 l118)), ha.covers ⟨rfl, rfl, rfl, rfl, rfl, rfl, trivial⟩, (Among.of Among.none _ hs)⟩
        ·have h101 := h96
         rw [hx97] at hm h101; rw [ILimit.on_c80] at hm
         obtain ⟨cs119, R120, rfl⟩ := Ival.agg h101
         obtain ⟨A122, c123, rfl, h124⟩ := DTable.opn R120
         refine StD.takeP (i := 6) (v := (.func (.method "searchlight/domain.holds") #[.iface 80 (.agg #[.slice A122 y99.rows.length c123])] #[])) rfl (fun _ => Yields.nilCheckMeth ns80_holds rfl) rfl rfl trivial (by rintro _ _ _ ⟨_, _, _, _, h, _⟩; cases h) (by kernel_rfl) (listed' := #[true, true, true, true, false, true, true, false, false, false]) rfl ?_
         refine StD.takeP (i := 7) (v := (.iface 80 (.agg #[.slice A122 y99.rows.length c123]))) rfl (fun _ => Yields.move rfl) rfl rfl trivial (by rintro _ _ _ ⟨_, _, _, _, h, _⟩; cases h) (by kernel_rfl) (listed' := #[true, true, true, true, false, true, true, true, false, false]) rfl ?_
         refine StD.only (i := 4) rfl (by kernel_rfl) (listed' := #[true, true, true, true, true, true, true, true, false, false]) rfl ?_
         intro hcl126
         obtain ⟨q127, e128, hm⟩ := bS hm
         refine St.call [blk b85 (.cells #[.int .i64 x66.Kind, .slice A73 x66.Vars.length c74, .slice A76 x66.A.length c77, .int .i64 x66.B, .slice A79 x66.Rows.length c80] 28 (0, 0))] (m_domain_chosen_sp (a0 := x66) (Fsl.mono l94 h75) (Fsl.mono l94 h78) (Fsl.mono l94 h81) (Fsl.mono (PH.le_trans l8 (PH.le_trans l15 (PH.le_trans l64 l94))) ph1) e128) rfl (fun _ ha => ev2 ha rfl rfl) rfl en35 rfl rfl trivial ?_
         rintro _ F129 _ ⟨A131, c132, rfl, h133, rfl⟩ l130
         refine StD.next hcl126 (fun h => by cases h) ?_
         refine StD.only (i := 8) rfl (by kernel_rfl) (listed' := #[true, true, true, true, true, true, true, true, true, false]) rfl ?_
         intro hcl135
         obtain ⟨q136, e137, hm⟩ := bS hm
         refine St.invoke [blk b85 (.cells #[.int .i64 x66.Kind, .slice A73 x66.Vars.length c74, .slice A76 x66.A.length c77, .int .i64 x66.B, .slice A79 x66.Rows.length c80] 28 (0, 0))] (m_domain_table_holds_sp (a0 := y99) (Fsl.mono l130 h124) h133 e137) rfl (fun _ ha => ev1 ha rfl) rfl iv80_holds rfl rfl trivial ?_
         rintro _ F138 _ ⟨rfl, rfl⟩ l139
         refine StD.next hcl135 (fun h => by cases h) ?_
         refine StD.takeP (i := 9) (v := (.bool (!q136))) rfl (fun _ => Yields.not rfl) rfl rfl trivial (by rintro _ _ _ ⟨_, _, _, _, h, _⟩; cases h) (by kernel_rfl) (listed' := #[true, true, true, true, true, true, true, true, true, true]) rfl ?_
         refine StD.done (by kernel_rfl) ?_
         obtain rfl := sI hm
         intro a w ha hs
         exact ⟨F138, (PH.le_trans l94 (PH.le_trans l130 l139)), ha.covers ⟨rfl, rfl, rfl, rfl, rfl, rfl, trivial⟩, (Among.of Among.none _ hs)⟩
        ·have h101 := h96
         rw [hx97] at hm h101; rw [ILimit.on_c82] at hm
         obtain ⟨cs140, R141, rfl⟩ := Ival.agg h101
         obtain ⟨A143, c144, A146, c147, A149, c150, rfl, h145, h148, h151⟩ := DSum.opn R141
         refine StD.takeP (i := 6) (v := (.func (.method "searchlight/domain.holds") #[.iface 82 (.agg #[.int .i64 y100.l.Kind, .slice A143 y100.l.Vars.length c144, .slice A146 y100.l.A.length c147, .int .i64 y100.l.B, .slice A149 y100.l.Rows.length c150])] #[])) rfl (fun _ => Yields.nilCheckMeth ns82_holds rfl) rfl rfl trivial (by rintro _ _ _ ⟨_, _, _, _, h, _⟩; cases h) (by kernel_rfl) (listed' := #[true, true, true, true, false, true, true, false, false, false]) rfl ?_
         refine StD.takeP (i := 7) (v := (.iface 82 (.agg #[.int .i64 y100.l.Kind, .slice A143 y100.l.Vars.length c144, .slice A146 y100.l.A.length c147, .int .i64 y100.l.B, .slice A149 y100.l.Rows.length c150]))) rfl (fun _ => Yields.move rfl) rfl rfl trivial (by rintro _ _ _ ⟨_, _, _, _, h, _⟩; cases h) (by kernel_rfl) (listed' := #[true, true, true, true, false, true, true, true, false, false]) rfl ?_
         refine StD.only (i := 4) rfl (by kernel_rfl) (listed' := #[true, true, true, true, true, true, true, true, false, false]) rfl ?_
         intro hcl155
         obtain ⟨q156, e157, hm⟩ := bS hm
         refine St.call [blk b85 (.cells #[.int .i64 x66.Kind, .slice A73 x66.Vars.length c74, .slice A76 x66.A.length c77, .int .i64 x66.B, .slice A79 x66.Rows.length c80] 28 (0, 0))] (m_domain_chosen_sp (a0 := x66) (Fsl.mono l94 h75) (Fsl.mono l94 h78) (Fsl.mono l94 h81) (Fsl.mono (PH.le_trans l8 (PH.le_trans l15 (PH.le_trans l64 l94))) ph1) e157) rfl (fun _ ha => ev2 ha rfl rfl) rfl en35 rfl rfl trivial ?_
         rintro _ F158 _ ⟨A160, c161, rfl, h162, rfl⟩ l159
         refine StD.next hcl155 (fun h => by cases h) ?_
         refine StD.only (i := 8) rfl (by kernel_rfl) (listed' := #[true, true, true, true, true, true, true, true, true, false]) rfl ?_
         intro hcl164
         obtain ⟨q165, e166, hm⟩ := bS hm
         refine St.invoke [blk b85 (.cells #[.int .i64 x66.Kind, .slice A73 x66.Vars.length c74, .slice A76 x66.A.length c77, .int .i64 x66.B, .slice A79 x66.Rows.length c80] 28 (0, 0))] (m_domain_sum_holds_sp (a0 := y100) (Fsl.mono l159 h145) (Fsl.mono l159 h148) (Fsl.mono l159 h151) h162 e166) rfl (fun _ ha => ev1 ha rfl) rfl iv82_holds rfl rfl trivial ?_
         rintro _ F167 _ ⟨rfl, rfl⟩ l168
         refine StD.next hcl164 (fun h => by cases h) ?_
         refine StD.takeP (i := 9) (v := (.bool (!q165))) rfl (fun _ => Yields.not rfl) rfl rfl trivial (by rintro _ _ _ ⟨_, _, _, _, h, _⟩; cases h) (by kernel_rfl) (listed' := #[true, true, true, true, true, true, true, true, true, true]) rfl ?_
         refine StD.done (by kernel_rfl) ?_
         obtain rfl := sI hm
         intro a w ha hs
         exact ⟨F167, (PH.le_trans l94 (PH.le_trans l159 l168)), ha.covers ⟨rfl, rfl, rfl, rfl, rfl, rfl, trivial⟩, (Among.of Among.none _ hs)⟩
       ·rintro a w ⟨F87, l88, ha, hs⟩
        replace hm := hk89
        refine St.use (?_ : St _ _ _ _ _ _) ha hs
        clear ha hs a w
        refine St.cond_b rfl ?_ ?_
        ·intro q169
         replace q169 : z86 = true := q169
         replace hm := iT hm q169
         refine St.seq ?_
         refine St.region ?_
         refine St.val (v := (.int .i64 ((s59 : Nat) : Int))) (Yields.move rfl) trivial rfl rfl ?_
         refine St.val (v := (.bool false)) (Yields.assign rfl) trivial rfl rfl ?_
         refine St.val (v := (.int .i64 ((s59 : Nat) : Int))) (Yields.assign rfl) trivial rfl rfl ?_
         refine St.val (v := (.int .i64 0)) (Yields.assign rfl) trivial rfl rfl ?_
         refine St.nil ?_
         refine St.norm ?_
         refine St.ret ?_
         refine St.inret ?_
         refine St.thenret ?_
         refine St.thenret ?_
         refine St.inret ?_
         refine St.thenret ?_
         obtain rfl := sI hm
         obtain rfl := aR ho62
         obtain rfl := aR ho56
         exact St.doneR3 rfl rfl rfl rfl ⟨rfl, rfl⟩ (fun w hs => Among.of Among.none w hs)
        ·intro q170
         replace q170 : ¬ (z86 = true) := bf q170
         replace hm := iF hm q170
         refine St.skip ?_
         refine St.innorm ?_
         refine St.norm ?_
         refine St.region ?_
         refine St.val (v := (.int .i64 ((s59 + 1 : Nat) : Int))) (Yields.addn (j := 1) rfl rfl rfl (by have q_0 := q65; have q_1 := ph0_1.bnd.2; omega)) trivial rfl rfl ?_
         refine St.val (v := (.int .i64 ((s59 + 1 : Nat) : Int))) (Yields.move rfl) trivial rfl rfl ?_
         refine St.nil ?_
         refine St.norm ?_
         obtain rfl := sI hm
         intro a w ha hs
         exact ⟨s59 + 1, aL ho62, F87, (PH.le_trans l64 l88), ha.covers ⟨rfl, rfl, rfl, rfl, trivial⟩, (Among.of Among.none _ hs)⟩
      ·intro q171
       replace q171 : ¬ (((s59 : Nat) : Int) < ((a0.Limits.length : Nat) : Int)) := of_decide_eq_false q171
       replace hm := iF hm q171
       refine St.exit ?_
       refine St.thenexit ?_
       refine St.thenexit ?_
       refine St.inexit ?_
       obtain rfl := sI hm
       obtain rfl := aR ho62
       intro a w ha hs
       exact ⟨(), rfl, F63, l64, ha.covers trivial, (Among.of Among.none _ hs)⟩
    ·rintro a w ⟨z52, rfl, F53, l54, ha, hs⟩
     replace hm := aL ho56
     refine St.use (?_ : St _ _ _ _ _ _) ha hs
     clear ha hs a w
     refine St.seq ?_
     refine St.region ?_
     refine St.val (v := (.bool true)) (Yields.assign rfl) trivial rfl rfl ?_
     refine St.val (v := (.int .i64 0)) (Yields.assign rfl) trivial rfl rfl ?_
     refine St.val (v := (.int .i64 0)) (Yields.assign rfl) trivial rfl rfl ?_
     refine St.nil ?_
     refine St.norm ?_
     refine St.ret ?_
     obtain rfl := sI hm
     exact St.doneR3 rfl rfl rfl rfl ⟨rfl, rfl⟩ (fun w hs => Among.of Among.none w hs)

theorem m_law11_in_sp {F : PH} {g : Nat} {a0 : List Int} {a1 : Int} {pA0 : Option Addr} {pc0 : Nat} (ph0 : Fsl 8 (Kind.int .i64) F pA0 pc0 a0) {r : Bool} (hm : m_law11_in g a0 a1 = some r) :
  CallSp Try.prog 11 #[.slice pA0 a0.length pc0, .int .i64 a1] F [] (fun u F' H' => u = (.bool r) ∧ H' = []) := by
 unfold m_law11_in at hm
 refine CallSp.enter (args := [.slice pA0 a0.length pc0, .int .i64 a1]) Try.func11 rfl rfl ?_
 intro w0 m0 hm0
 refine St.seq ?_
 refine St.region ?_
 refine St.val (v := (.bool false)) (Yields.assign rfl) trivial rfl rfl ?_
 refine St.nil ?_
 refine St.norm ?_
 obtain ⟨o3, hm, ho4⟩ := jS hm
 refine St.cutI (fun a w => ∃ z2 : Unit, o3 = .inl z2 ∧ Has Try.f11.ntmps a [] ∧ Sat ⟨w0, fun b => m0 b ≠ none, F⟩ F [] w) ?_ ?_
 ·skip
  refine St.seq ?_
  refine St.region ?_
  refine St.val (v := (.int .i64 0)) (Yields.assign rfl) trivial rfl rfl ?_
  refine St.nil ?_
  refine St.norm ?_
  refine St.block ?_
  refine St.loopM hm (fun s6 a w => Has Try.f11.ntmps a [(0, .slice pA0 a0.length pc0), (1, .int .i64 a1), (5, .int .i64 ((s6 : Nat) : Int))] ∧ Sat ⟨w0, fun b => m0 b ≠ none, F⟩ F [] w) ?_ ?_
  ·skip
   intro a w ha hs
   exact ⟨ha.covers ⟨rfl, rfl, rfl, trivial⟩, (Among.of Among.none _ hs)⟩
  ·rintro s6 o7 co8 hm ho9 a w ⟨ha, hs⟩
   refine St.use (?_ : St _ _ _ _ _ _) ha hs
   clear ha hs a w
   refine St.seq ?_
   refine St.seq ?_
   refine St.region ?_
   refine St.val (v := (.int .i64 ((s6 : Nat) : Int))) (Yields.move rfl) trivial rfl rfl ?_
   refine St.val (v := (.slice pA0 a0.length pc0)) (Yields.move rfl) trivial rfl rfl ?_
   refine St.val (v := (.int .i64 ((a0.length : Nat) : Int))) (Yields.lenSlice tu26 rfl) trivial rfl rfl ?_
   refine St.val (v := (.bool (decide (((s6 : Nat) : Int) < ((a0.length : Nat) : Int))))) (Yields.lt rfl rfl) trivial rfl rfl ?_
   refine St.nil ?_
   refine St.norm ?_
   refine St.cond_b rfl ?_ ?_
   ·intro q10
    replace q10 : ((s6 : Nat) : Int) < ((a0.length : Nat) : Int) := of_decide_eq_true q10
    replace hm := iT hm q10
    refine St.skip ?_
    refine St.norm ?_
    refine St.seq ?_
    refine St.block ?_
    refine St.seq ?_
    refine St.region ?_
    refine St.val (v := (.slice pA0 a0.length pc0)) (Yields.move rfl) trivial rfl rfl ?_
    refine St.val (v := (.int .i64 ((s6 : Nat) : Int))) (Yields.move rfl) trivial rfl rfl ?_
    obtain ⟨x11, e12, hm⟩ := bS hm
    obtain ⟨p13, cs14, jx15, R16, k17⟩ := ph0.nidx e12
    obtain rfl := R16
    refine St.val (v := (.pointer (some p13))) (Yields.idx jx15 ts26 rfl rfl) trivial rfl rfl ?_
    refine St.val (v := (.int .i64 x11)) (Yields.load rfl (Loads.Fat k17 tc3 rfl)) trivial rfl rfl ?_
    refine St.val (v := (.int .i64 a1)) (Yields.move rfl) trivial rfl rfl ?_
    refine St.val (v := (.bool (decide (x11 = a1)))) (Yields.eq rfl rfl) trivial rfl rfl ?_
    refine St.nil ?_
    refine St.norm ?_
    refine St.cond_b rfl ?_ ?_
    ·intro q18
     replace q18 : x11 = a1 := of_decide_eq_true q18
     replace hm := iT hm q18
     refine St.seq ?_
     refine St.region ?_
     refine St.val (v := (.bool true)) (Yields.assign rfl) trivial rfl rfl ?_
     refine St.nil ?_
     refine St.norm ?_
     refine St.ret ?_
     refine St.inret ?_
     refine St.thenret ?_
     refine St.thenret ?_
     refine St.inret ?_
     refine St.thenret ?_
     obtain rfl := sI hm
     obtain rfl := aR ho9
     obtain rfl := aR ho4
     exact St.doneR1 rfl rfl ⟨rfl, rfl⟩ (fun w hs => Among.of Among.none w hs)
    ·intro q19
     replace q19 : ¬ (x11 = a1) := of_decide_eq_false q19
     replace hm := iF hm q19
     refine St.skip ?_
     refine St.innorm ?_
     refine St.norm ?_
     refine St.region ?_
     refine St.val (v := (.int .i64 ((s6 : Nat) : Int))) (Yields.move rfl) trivial rfl rfl ?_
     refine St.val (v := (.int .i64 ((s6 + 1 : Nat) : Int))) (Yields.addn (j := 1) rfl rfl rfl (by have q_0 := q10; have q_1 := ph0.bnd.2; omega)) trivial rfl rfl ?_
     refine St.val (v := (.int .i64 ((s6 + 1 : Nat) : Int))) (Yields.assign rfl) trivial rfl rfl ?_
     refine St.nil ?_
     refine St.norm ?_
     obtain rfl := sI hm
     intro a w ha hs
     exact ⟨s6 + 1, aL ho9, ha.covers ⟨rfl, rfl, rfl, trivial⟩, (Among.of Among.none _ hs)⟩
   ·intro q20
    replace q20 : ¬ (((s6 : Nat) : Int) < ((a0.length : Nat) : Int)) := of_decide_eq_false q20
    replace hm := iF hm q20
    refine St.exit ?_
    refine St.thenexit ?_
    refine St.thenexit ?_
    refine St.inexit ?_
    obtain rfl := sI hm
    obtain rfl := aR ho9
    intro a w ha hs
    exact ⟨(), rfl, ha.covers trivial, (Among.of Among.none _ hs)⟩
 ·rintro a w ⟨z2, rfl, ha, hs⟩
  replace hm := aL ho4
  refine St.use (?_ : St _ _ _ _ _ _) ha hs
  clear ha hs a w
  refine St.seq ?_
  refine St.region ?_
  refine St.val (v := (.bool false)) (Yields.assign rfl) trivial rfl rfl ?_
  refine St.nil ?_
  refine St.norm ?_
  refine St.ret ?_
  obtain rfl := sI hm
  exact St.doneR1 rfl rfl ⟨rfl, rfl⟩ (fun w hs => Among.of Among.none w hs)

end Go.Proofs.Ytopmcncaanjboaa
