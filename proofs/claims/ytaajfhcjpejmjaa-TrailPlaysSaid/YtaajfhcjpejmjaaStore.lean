import Derived.Test.YtaajfhcjpejmjaaStoreDefs
namespace Go.Proofs.Ytaajfhcjpejmjaa
open Go Go.Sy Go.RowKit
set_option linter.unusedVariables false

theorem set_sp {F : PH} {SB : Nat} {CA TA MA : Option Addr} {n cc t tc m mc : Nat} {cells : List Int} {tr : List (Int × Int)} {tcells : List Value} {i v was : Int} (h0 : 0 ≤ i) (h1 : i < n) (hwas : cells[i.toNat]? = some was) (hT : Cat (TE SB) F tcells tr) (hb : t ≤ 100000) :
    CallSp Try.prog 22 #[.pointer (some ⟨SB, 0, none⟩), .int .i64 i, .int .i64 v] F [blk SB (.cells #[.slice CA n cc, .slice TA t tc, .slice MA m mc] 40 (0, 0)), row CA n cc 3 1 (ints cells), row TA t tc 46 2 tcells] (fun u F' H' => ∃ TA' tc' tcells', u = .tuple #[] ∧ H' = [blk SB (.cells #[.slice CA n cc, .slice TA' (t + 1) tc', .slice MA m mc] 40 (0, 0)), row CA n cc 3 1 (ints (cells.set i.toNat v)), row TA' (t + 1) tc' 46 2 tcells'] ∧ Cat (TE SB) F' tcells' (tr ++ [(i, was)])) := by
  refine CallSp.enter (args := [.pointer (some ⟨SB, 0, none⟩), .int .i64 i, .int .i64 v]) Try.func22 rfl rfl ?_
  intro w0 m0 _
  refine St.row_some 1 rfl (by omega) ?_
  intro g hg
  subst hg
  
  refine St.seq ?_
  refine St.region ?_
  refine St.box rfl trivial rfl ?_
  intro b1
  refine St.box rfl trivial rfl ?_
  intro b2
  refine St.nil ?_
  refine St.norm ?_
  refine St.seq ?_
  refine StD.start [8] [blk b2 (.cells #[.int .i64 i] 3 (0, 0)), blk b1 (.cells #[.pointer (some ⟨SB, 0, none⟩)] 35 (0, 0)), blk SB (.cells #[.slice (some ⟨g, 0, none⟩) n cc, .slice TA t tc, .slice MA m mc] 40 (0, 0)), row (some ⟨g, 0, none⟩) n cc 3 1 (ints cells), row TA t tc 46 2 tcells] hmix ?_
  refine StD.take (i := 0) (v := (.pointer (some ⟨SB, 0, none⟩))) rfl (Yields.load rfl (Loads.H1 1 rfl tc35 rfl)) rfl rfl trivial Among.refl (by rintro _ _ _ ⟨_, _, _, _, h, _⟩; cases h) (by kernel_rfl) (listed' := #[true, false, false, false, false, false, false, false, false]) rfl ?_
  refine StD.take (i := 1) (v := (.pointer (some ⟨SB, 0, none⟩))) rfl (Yields.nilCheck rfl) rfl rfl trivial Among.refl (by rintro _ _ _ ⟨_, _, _, _, h, _⟩; cases h) (by kernel_rfl) (listed' := #[true, true, false, false, false, false, false, false, false]) rfl ?_
  refine StD.take (i := 2) (v := (.pointer (some ⟨SB, 0, none⟩))) rfl (Yields.fieldAddr (v := (.pointer (some ⟨SB, 0, none⟩))) rfl (fun _ => by kernel_rfl)) rfl rfl trivial Among.refl (by rintro _ _ _ ⟨_, _, _, _, h, _⟩; cases h) (by kernel_rfl) (listed' := #[true, true, true, false, false, false, false, false, false]) rfl ?_
  refine StD.take (i := 3) (v := (.slice (some ⟨g, 0, none⟩) n cc)) rfl (Yields.load rfl (Loads.H1 2 rfl tc23 rfl)) rfl rfl trivial Among.refl (by rintro _ _ _ ⟨_, _, _, _, h, _⟩; cases h) (by kernel_rfl) (listed' := #[true, true, true, true, false, false, false, false, false]) rfl ?_
  refine StD.take (i := 4) (v := (.int .i64 i)) rfl (Yields.load rfl (Loads.H1 0 rfl tc3 rfl)) rfl rfl trivial Among.refl (by rintro _ _ _ ⟨_, _, _, _, h, _⟩; cases h) (by kernel_rfl) (listed' := #[true, true, true, true, true, false, false, false, false]) rfl ?_
  refine StD.take (i := 5) (v := (.pointer (some ⟨g, i.toNat, none⟩))) rfl (Yields.indexAddr ts23 rfl rfl h0 h1 (p := ⟨g, i.toNat, none⟩) (by rw [add_off]; simp)) rfl rfl trivial Among.refl (by rintro _ _ _ ⟨_, _, _, _, h, _⟩; cases h) (by kernel_rfl) (listed' := #[true, true, true, true, true, true, false, false, false]) rfl ?_
  refine StD.take (i := 6) (v := (.int .i64 was)) rfl (Yields.load rfl (Loads.row1 3 rfl tc3 (u := .int .i64 was) (by unfold ints; simp [hwas]))) rfl rfl trivial Among.refl (by rintro _ _ _ ⟨_, _, _, _, h, _⟩; cases h) (by kernel_rfl) (listed' := #[true, true, true, true, true, true, true, false, false]) rfl ?_
  refine StD.only (i := 7) rfl (by kernel_rfl) (listed' := #[true, true, true, true, true, true, true, true, false]) rfl ?_
  intro hcl3
  refine St.alloc tz3 trivial rfl ?_
  intro b4
  refine StD.next hcl3 (fun _ => (Among.of (Among.take 1 rfl rfl (Among.take 1 rfl rfl (Among.take 1 rfl rfl (Among.take 1 rfl rfl (Among.take 1 rfl rfl Among.none))))))) ?_
  refine StD.only (i := 8) rfl (by kernel_rfl) (listed' := #[true, true, true, true, true, true, true, true, true]) rfl ?_
  intro hcl5
  refine St.store (R := [blk b2 (.cells #[.int .i64 i] 3 (0, 0)), blk b1 (.cells #[.pointer (some ⟨SB, 0, none⟩)] 35 (0, 0)), blk SB (.cells #[.slice (some ⟨g, 0, none⟩) n cc, .slice TA t tc, .slice MA m mc] 40 (0, 0)), row (some ⟨g, 0, none⟩) n cc 3 1 (ints cells), row TA t tc 46 2 tcells]) rfl rfl 0 rfl rfl tc3 rfl rfl trivial (cs' := #[.int .i64 was]) rfl ?_
  refine StD.next hcl5 (fun h => by cases h) ?_
  refine StD.done (by kernel_rfl) ?_
  refine St.norm ?_
  refine St.seq ?_
  refine StD.start [12] [blk b4 (.cells #[.int .i64 was] 3 (0, 0)), blk b2 (.cells #[.int .i64 i] 3 (0, 0)), blk b1 (.cells #[.pointer (some ⟨SB, 0, none⟩)] 35 (0, 0)), blk SB (.cells #[.slice (some ⟨g, 0, none⟩) n cc, .slice TA t tc, .slice MA m mc] 40 (0, 0))] hmix ?_
  refine StD.take (i := 0) (v := (.pointer (some ⟨SB, 0, none⟩))) rfl (Yields.load rfl (Loads.H1 2 rfl tc35 rfl)) rfl rfl trivial (Among.of (Among.take 0 rfl rfl (Among.take 0 rfl rfl (Among.take 0 rfl rfl (Among.take 0 rfl rfl Among.none))))) (by rintro _ _ _ ⟨_, _, _, _, h, _⟩; cases h) (by kernel_rfl) (listed' := #[true, false, false, false, false, false, false, false, false, false, false, false, false]) rfl ?_
  refine StD.take (i := 1) (v := (.pointer (some ⟨SB, 0, none⟩))) rfl (Yields.load rfl (Loads.H1 2 rfl tc35 rfl)) rfl rfl trivial (Among.of (Among.take 0 rfl rfl (Among.take 0 rfl rfl (Among.take 0 rfl rfl (Among.take 0 rfl rfl Among.none))))) (by rintro _ _ _ ⟨_, _, _, _, h, _⟩; cases h) (by kernel_rfl) (listed' := #[true, true, false, false, false, false, false, false, false, false, false, false, false]) rfl ?_
  refine StD.take (i := 2) (v := (.pointer (some ⟨SB, 0, none⟩))) rfl (Yields.nilCheck rfl) rfl rfl trivial (Among.of (Among.take 0 rfl rfl (Among.take 0 rfl rfl (Among.take 0 rfl rfl (Among.take 0 rfl rfl Among.none))))) (by rintro _ _ _ ⟨_, _, _, _, h, _⟩; cases h) (by kernel_rfl) (listed' := #[true, true, true, false, false, false, false, false, false, false, false, false, false]) rfl ?_
  refine StD.take (i := 3) (v := (.pointer (some ⟨SB, 1, none⟩))) rfl (Yields.fieldAddr (v := (.pointer (some ⟨SB, 1, none⟩))) rfl (fun _ => by kernel_rfl)) rfl rfl trivial (Among.of (Among.take 0 rfl rfl (Among.take 0 rfl rfl (Among.take 0 rfl rfl (Among.take 0 rfl rfl Among.none))))) (by rintro _ _ _ ⟨_, _, _, _, h, _⟩; cases h) (by kernel_rfl) (listed' := #[true, true, true, true, false, false, false, false, false, false, false, false, false]) rfl ?_
  refine StD.take (i := 4) (v := (.slice TA t tc)) rfl (Yields.load rfl (Loads.H1 3 rfl tc38 rfl)) rfl rfl trivial (Among.of (Among.take 0 rfl rfl (Among.take 0 rfl rfl (Among.take 0 rfl rfl (Among.take 0 rfl rfl Among.none))))) (by rintro _ _ _ ⟨_, _, _, _, h, _⟩; cases h) (by kernel_rfl) (listed' := #[true, true, true, true, true, false, false, false, false, false, false, false, false]) rfl ?_
  refine StD.take (i := 5) (v := (.int .i64 i)) rfl (Yields.load rfl (Loads.H1 1 rfl tc3 rfl)) rfl rfl trivial (Among.of (Among.take 0 rfl rfl (Among.take 0 rfl rfl (Among.take 0 rfl rfl (Among.take 0 rfl rfl Among.none))))) (by rintro _ _ _ ⟨_, _, _, _, h, _⟩; cases h) (by kernel_rfl) (listed' := #[true, true, true, true, true, true, false, false, false, false, false, false, false]) rfl ?_
  refine StD.take (i := 6) (v := (.func (.func 26) #[] #[.pointer (some ⟨b4, 0, none⟩), .pointer (some ⟨b1, 0, none⟩), .pointer (some ⟨b2, 0, none⟩)])) rfl (Yields.makeFunc (fun _ _ => ev0) (fun _ ha => ev3 ha rfl rfl rfl)) rfl rfl trivial (Among.of (Among.take 0 rfl rfl (Among.take 0 rfl rfl (Among.take 0 rfl rfl (Among.take 0 rfl rfl Among.none))))) (by rintro _ _ _ ⟨_, _, _, _, h, _⟩; cases h) (by kernel_rfl) (listed' := #[true, true, true, true, true, true, true, false, false, false, false, false, false]) rfl ?_
  refine StD.take (i := 7) (v := (.agg #[.int .i64 i, .func (.func 26) #[] #[.pointer (some ⟨b4, 0, none⟩), .pointer (some ⟨b1, 0, none⟩), .pointer (some ⟨b2, 0, none⟩)]])) rfl (Yields.build (v := (.agg #[.int .i64 i, .func (.func 26) #[] #[.pointer (some ⟨b4, 0, none⟩), .pointer (some ⟨b1, 0, none⟩), .pointer (some ⟨b2, 0, none⟩)]])) (vs := #[(0, .int .i64 i), (1, .func (.func 26) #[] #[.pointer (some ⟨b4, 0, none⟩), .pointer (some ⟨b1, 0, none⟩), .pointer (some ⟨b2, 0, none⟩)])]) (fun _ ha => evp2 ha rfl rfl) (fun _ => by kernel_rfl)) rfl rfl trivial (Among.of (Among.take 0 rfl rfl (Among.take 0 rfl rfl (Among.take 0 rfl rfl (Among.take 0 rfl rfl Among.none))))) (by rintro _ _ _ ⟨_, _, _, _, h, _⟩; cases h) (by kernel_rfl) (listed' := #[true, true, true, true, true, true, true, true, false, false, false, false, false]) rfl ?_
  refine StD.only (i := 8) rfl (by kernel_rfl) (listed' := #[true, true, true, true, true, true, true, true, true, false, false, false, false]) rfl ?_
  intro hcl6
  refine St.buildSlice (e := 46) (cells := #[.int .i64 i, .func (.func 26) #[] #[.pointer (some ⟨b4, 0, none⟩), .pointer (some ⟨b1, 0, none⟩), .pointer (some ⟨b2, 0, none⟩)]]) (vs := #[(0, .agg #[.int .i64 i, .func (.func 26) #[] #[.pointer (some ⟨b4, 0, none⟩), .pointer (some ⟨b1, 0, none⟩), .pointer (some ⟨b2, 0, none⟩)]])]) (fun _ ha => evp1 ha rfl) (fun _ => by kernel_rfl) rfl trivial ?_
  intro b7
  refine StD.next hcl6 (fun _ => (Among.of (Among.take 1 rfl rfl (Among.take 1 rfl rfl (Among.take 1 rfl rfl (Among.take 1 rfl rfl Among.none)))))) ?_
  refine StD.only (i := 9) rfl (by kernel_rfl) (listed' := #[true, true, true, true, true, true, true, true, true, true, false, false, false]) rfl ?_
  intro hcl8
  refine St.append_lit (R := [blk b7 (.cells #[.int .i64 i, .func (.func 26) #[] #[.pointer (some ⟨b4, 0, none⟩), .pointer (some ⟨b1, 0, none⟩), .pointer (some ⟨b2, 0, none⟩)]] 46 (0, 0)), blk b4 (.cells #[.int .i64 was] 3 (0, 0)), blk b2 (.cells #[.int .i64 i] 3 (0, 0)), blk b1 (.cells #[.pointer (some ⟨SB, 0, none⟩)] 35 (0, 0)), blk SB (.cells #[.slice (some ⟨g, 0, none⟩) n cc, .slice TA t tc, .slice MA m mc] 40 (0, 0)), row (some ⟨g, 0, none⟩) n cc 3 1 (ints cells)]) ts38 rfl rfl rfl 6 rfl rfl 0 rfl rfl rfl (by omega) rfl rfl trivial ?_
  intro A9 c10
  refine St.pick (R := [row A9 (t + 1) c10 46 2 (tcells ++ [.int .i64 i, .func (.func 26) #[] #[.pointer (some ⟨b4, 0, none⟩), .pointer (some ⟨b1, 0, none⟩), .pointer (some ⟨b2, 0, none⟩)]]), blk b4 (.cells #[.int .i64 was] 3 (0, 0)), blk b2 (.cells #[.int .i64 i] 3 (0, 0)), blk b1 (.cells #[.pointer (some ⟨SB, 0, none⟩)] 35 (0, 0)), blk SB (.cells #[.slice (some ⟨g, 0, none⟩) n cc, .slice TA t tc, .slice MA m mc] 40 (0, 0)), row (some ⟨g, 0, none⟩) n cc 3 1 (ints cells)]) 1 rfl rfl ?_
  refine St.drop ?_
  refine StD.next hcl8 (fun _ => (Among.of (Among.take 1 rfl rfl (Among.take 1 rfl rfl (Among.take 1 rfl rfl (Among.take 1 rfl rfl Among.none)))))) ?_
  refine StD.take (i := 10) (v := (.pointer (some ⟨SB, 0, none⟩))) rfl (Yields.nilCheck rfl) rfl rfl trivial (Among.of (Among.take 1 rfl rfl (Among.take 1 rfl rfl (Among.take 1 rfl rfl (Among.take 1 rfl rfl Among.none))))) (by rintro _ _ _ ⟨_, _, _, _, h, _⟩; cases h) (by kernel_rfl) (listed' := #[true, true, true, true, true, true, true, true, true, true, true, false, false]) rfl ?_
  refine StD.take (i := 11) (v := (.pointer (some ⟨SB, 1, none⟩))) rfl (Yields.fieldAddr (v := (.pointer (some ⟨SB, 1, none⟩))) rfl (fun _ => by kernel_rfl)) rfl rfl trivial (Among.of (Among.take 1 rfl rfl (Among.take 1 rfl rfl (Among.take 1 rfl rfl (Among.take 1 rfl rfl Among.none))))) (by rintro _ _ _ ⟨_, _, _, _, h, _⟩; cases h) (by kernel_rfl) (listed' := #[true, true, true, true, true, true, true, true, true, true, true, true, false]) rfl ?_
  refine StD.only (i := 12) rfl (by kernel_rfl) (listed' := #[true, true, true, true, true, true, true, true, true, true, true, true, true]) rfl ?_
  intro hcl11
  refine St.store (R := [row A9 (t + 1) c10 46 2 (tcells ++ [.int .i64 i, .func (.func 26) #[] #[.pointer (some ⟨b4, 0, none⟩), .pointer (some ⟨b1, 0, none⟩), .pointer (some ⟨b2, 0, none⟩)]]), blk b4 (.cells #[.int .i64 was] 3 (0, 0)), blk b2 (.cells #[.int .i64 i] 3 (0, 0)), blk b1 (.cells #[.pointer (some ⟨SB, 0, none⟩)] 35 (0, 0)), row (some ⟨g, 0, none⟩) n cc 3 1 (ints cells)]) rfl rfl 4 rfl rfl tc38 rfl rfl trivial (cs' := #[.slice (some ⟨g, 0, none⟩) n cc, .slice A9 (t + 1) c10, .slice MA m mc]) rfl ?_
  refine StD.next hcl11 (fun h => by cases h) ?_
  refine StD.done (by kernel_rfl) ?_
  refine St.norm ?_
  refine StD.start [7] [blk SB (.cells #[.slice (some ⟨g, 0, none⟩) n cc, .slice A9 (t + 1) c10, .slice MA m mc] 40 (0, 0)), row A9 (t + 1) c10 46 2 (tcells ++ [.int .i64 i, .func (.func 26) #[] #[.pointer (some ⟨b4, 0, none⟩), .pointer (some ⟨b1, 0, none⟩), .pointer (some ⟨b2, 0, none⟩)]]), blk b4 (.cells #[.int .i64 was] 3 (0, 0)), blk b2 (.cells #[.int .i64 i] 3 (0, 0)), blk b1 (.cells #[.pointer (some ⟨SB, 0, none⟩)] 35 (0, 0)), row (some ⟨g, 0, none⟩) n cc 3 1 (ints cells)] hmix ?_
  refine StD.take (i := 0) (v := (.pointer (some ⟨SB, 0, none⟩))) rfl (Yields.load rfl (Loads.H1 4 rfl tc35 rfl)) rfl rfl trivial Among.refl (by rintro _ _ _ ⟨_, _, _, _, h, _⟩; cases h) (by kernel_rfl) (listed' := #[true, false, false, false, false, false, false, false]) rfl ?_
  refine StD.take (i := 1) (v := (.pointer (some ⟨SB, 0, none⟩))) rfl (Yields.nilCheck rfl) rfl rfl trivial Among.refl (by rintro _ _ _ ⟨_, _, _, _, h, _⟩; cases h) (by kernel_rfl) (listed' := #[true, true, false, false, false, false, false, false]) rfl ?_
  refine StD.take (i := 2) (v := (.pointer (some ⟨SB, 0, none⟩))) rfl (Yields.fieldAddr (v := (.pointer (some ⟨SB, 0, none⟩))) rfl (fun _ => by kernel_rfl)) rfl rfl trivial Among.refl (by rintro _ _ _ ⟨_, _, _, _, h, _⟩; cases h) (by kernel_rfl) (listed' := #[true, true, true, false, false, false, false, false]) rfl ?_
  refine StD.take (i := 3) (v := (.slice (some ⟨g, 0, none⟩) n cc)) rfl (Yields.load rfl (Loads.H1 0 rfl tc23 rfl)) rfl rfl trivial Among.refl (by rintro _ _ _ ⟨_, _, _, _, h, _⟩; cases h) (by kernel_rfl) (listed' := #[true, true, true, true, false, false, false, false]) rfl ?_
  refine StD.take (i := 4) (v := (.int .i64 i)) rfl (Yields.load rfl (Loads.H1 3 rfl tc3 rfl)) rfl rfl trivial Among.refl (by rintro _ _ _ ⟨_, _, _, _, h, _⟩; cases h) (by kernel_rfl) (listed' := #[true, true, true, true, true, false, false, false]) rfl ?_
  refine StD.take (i := 5) (v := (.int .i64 v)) rfl (Yields.move rfl) rfl rfl trivial Among.refl (by rintro _ _ _ ⟨_, _, _, _, h, _⟩; cases h) (by kernel_rfl) (listed' := #[true, true, true, true, true, true, false, false]) rfl ?_
  refine StD.take (i := 6) (v := (.pointer (some ⟨g, i.toNat, none⟩))) rfl (Yields.indexAddr ts23 rfl rfl h0 h1 (p := ⟨g, i.toNat, none⟩) (by rw [add_off]; simp)) rfl rfl trivial Among.refl (by rintro _ _ _ ⟨_, _, _, _, h, _⟩; cases h) (by kernel_rfl) (listed' := #[true, true, true, true, true, true, true, false]) rfl ?_
  refine StD.only (i := 7) rfl (by kernel_rfl) (listed' := #[true, true, true, true, true, true, true, true]) rfl ?_
  intro hcl12
  refine St.store_row (R := [blk SB (.cells #[.slice (some ⟨g, 0, none⟩) n cc, .slice A9 (t + 1) c10, .slice MA m mc] 40 (0, 0)), row A9 (t + 1) c10 46 2 (tcells ++ [.int .i64 i, .func (.func 26) #[] #[.pointer (some ⟨b4, 0, none⟩), .pointer (some ⟨b1, 0, none⟩), .pointer (some ⟨b2, 0, none⟩)]]), blk b4 (.cells #[.int .i64 was] 3 (0, 0)), blk b2 (.cells #[.int .i64 i] 3 (0, 0)), blk b1 (.cells #[.pointer (some ⟨SB, 0, none⟩)] 35 (0, 0))]) rfl rfl 5 rfl rfl tc3 rfl (by unfold ints; rw [List.length_map]; exact (List.getElem?_eq_some_iff.1 hwas).1) trivial ?_
  refine StD.next hcl12 (fun h => by cases h) ?_
  refine StD.done (by kernel_rfl) ?_
  refine St.freeze_blk (R := [row (some ⟨g, 0, none⟩) n cc 3 1 ((ints cells).set i.toNat (.int .i64 v)), blk SB (.cells #[.slice (some ⟨g, 0, none⟩) n cc, .slice A9 (t + 1) c10, .slice MA m mc] 40 (0, 0)), row A9 (t + 1) c10 46 2 (tcells ++ [.int .i64 i, .func (.func 26) #[] #[.pointer (some ⟨b4, 0, none⟩), .pointer (some ⟨b1, 0, none⟩), .pointer (some ⟨b2, 0, none⟩)]]), blk b2 (.cells #[.int .i64 i] 3 (0, 0)), blk b1 (.cells #[.pointer (some ⟨SB, 0, none⟩)] 35 (0, 0))]) 3 rfl rfl ?_
  intro F13 hle14 hwb
  replace hT := Cat.mono hle14 hT
  refine St.freeze_blk (R := [row (some ⟨g, 0, none⟩) n cc 3 1 ((ints cells).set i.toNat (.int .i64 v)), blk SB (.cells #[.slice (some ⟨g, 0, none⟩) n cc, .slice A9 (t + 1) c10, .slice MA m mc] 40 (0, 0)), row A9 (t + 1) c10 46 2 (tcells ++ [.int .i64 i, .func (.func 26) #[] #[.pointer (some ⟨b4, 0, none⟩), .pointer (some ⟨b1, 0, none⟩), .pointer (some ⟨b2, 0, none⟩)]]), blk b2 (.cells #[.int .i64 i] 3 (0, 0))]) 4 rfl rfl ?_
  intro F15 hle16 hsb
  replace hT := Cat.mono hle16 hT
  have hwb := hle16 _ _ hwb
  refine St.freeze_blk (R := [row (some ⟨g, 0, none⟩) n cc 3 1 ((ints cells).set i.toNat (.int .i64 v)), blk SB (.cells #[.slice (some ⟨g, 0, none⟩) n cc, .slice A9 (t + 1) c10, .slice MA m mc] 40 (0, 0)), row A9 (t + 1) c10 46 2 (tcells ++ [.int .i64 i, .func (.func 26) #[] #[.pointer (some ⟨b4, 0, none⟩), .pointer (some ⟨b1, 0, none⟩), .pointer (some ⟨b2, 0, none⟩)]])]) 3 rfl rfl ?_
  intro F17 hle18 hab
  replace hT := Cat.mono hle18 hT
  have hwb := hle18 _ _ hwb
  have hsb := hle18 _ _ hsb
  refine St.pick (R := [row (some ⟨g, 0, none⟩) n cc 3 1 ((ints cells).set i.toNat (.int .i64 v)), blk SB (.cells #[.slice (some ⟨g, 0, none⟩) n cc, .slice A9 (t + 1) c10, .slice MA m mc] 40 (0, 0))]) 2 rfl rfl ?_
  refine St.pick (R := [row A9 (t + 1) c10 46 2 (tcells ++ [.int .i64 i, .func (.func 26) #[] #[.pointer (some ⟨b4, 0, none⟩), .pointer (some ⟨b1, 0, none⟩), .pointer (some ⟨b2, 0, none⟩)]]), blk SB (.cells #[.slice (some ⟨g, 0, none⟩) n cc, .slice A9 (t + 1) c10, .slice MA m mc] 40 (0, 0))]) 1 rfl rfl ?_
  refine St.pick (R := [row (some ⟨g, 0, none⟩) n cc 3 1 ((ints cells).set i.toNat (.int .i64 v)), row A9 (t + 1) c10 46 2 (tcells ++ [.int .i64 i, .func (.func 26) #[] #[.pointer (some ⟨b4, 0, none⟩), .pointer (some ⟨b1, 0, none⟩), .pointer (some ⟨b2, 0, none⟩)]])]) 2 rfl rfl ?_
  rw [← ints_set]
  refine St.end0 rfl ⟨_, _, _, rfl, rfl, Cat.snoc (K := TE SB) (x := (i, was)) (show (TE SB).R _ _ _ from ⟨_, _, _, rfl, hwb, hsb, hab⟩) hT⟩

theorem put_sp {F : PH} {SB : Nat} {CA TA MA : Option Addr} {n cc t tc m mc : Nat} {cells : List Int} {i was : Int} {wb sb ab : Nat} (h0 : 0 ≤ i) (h1 : i < n) (hn : cells.length = n) (hwb : F wb = some (.cells #[.int .i64 was] 3 (0, 0))) (hsb : F sb = some (.cells #[.pointer (some ⟨SB, 0, none⟩)] 35 (0, 0))) (hab : F ab = some (.cells #[.int .i64 i] 3 (0, 0))) :
    CallSp Try.prog 26 #[.pointer (some ⟨wb, 0, none⟩), .pointer (some ⟨sb, 0, none⟩), .pointer (some ⟨ab, 0, none⟩)] F [blk SB (.cells #[.slice CA n cc, .slice TA t tc, .slice MA m mc] 40 (0, 0)), row CA n cc 3 1 (ints cells)] (fun u F' H' => u = .tuple #[] ∧ F = F' ∧ H' = [blk SB (.cells #[.slice CA n cc, .slice TA t tc, .slice MA m mc] 40 (0, 0)), row CA n cc 3 1 (ints (cells.set i.toNat was))]) := by
  refine CallSp.enter (args := [.pointer (some ⟨wb, 0, none⟩), .pointer (some ⟨sb, 0, none⟩), .pointer (some ⟨ab, 0, none⟩)]) Try.func26 rfl rfl ?_
  intro w0 m0 hm0
  refine St.row_some 1 rfl (by omega) ?_
  intro g hg
  subst hg
  refine StD.start [7] [blk SB (.cells #[.slice (some ⟨g, 0, none⟩) n cc, .slice TA t tc, .slice MA m mc] 40 (0, 0)), row (some ⟨g, 0, none⟩) n cc 3 1 (ints cells)] hmix ?_
  refine StD.take (i := 0) (v := (.pointer (some ⟨SB, 0, none⟩))) rfl (Yields.load rfl (Loads.Fb hsb tc35 rfl)) rfl rfl trivial Among.refl (by rintro _ _ _ ⟨_, _, _, _, h, _⟩; cases h) (by kernel_rfl) (listed' := #[true, false, false, false, false, false, false, false]) rfl ?_
  refine StD.take (i := 1) (v := (.pointer (some ⟨SB, 0, none⟩))) rfl (Yields.nilCheck rfl) rfl rfl trivial Among.refl (by rintro _ _ _ ⟨_, _, _, _, h, _⟩; cases h) (by kernel_rfl) (listed' := #[true, true, false, false, false, false, false, false]) rfl ?_
  refine StD.take (i := 2) (v := (.pointer (some ⟨SB, 0, none⟩))) rfl (Yields.fieldAddr (v := (.pointer (some ⟨SB, 0, none⟩))) rfl (fun _ => by kernel_rfl)) rfl rfl trivial Among.refl (by rintro _ _ _ ⟨_, _, _, _, h, _⟩; cases h) (by kernel_rfl) (listed' := #[true, true, true, false, false, false, false, false]) rfl ?_
  refine StD.take (i := 3) (v := (.slice (some ⟨g, 0, none⟩) n cc)) rfl (Yields.load rfl (Loads.H1 0 rfl tc23 rfl)) rfl rfl trivial Among.refl (by rintro _ _ _ ⟨_, _, _, _, h, _⟩; cases h) (by kernel_rfl) (listed' := #[true, true, true, true, false, false, false, false]) rfl ?_
  refine StD.take (i := 4) (v := (.int .i64 i)) rfl (Yields.load rfl (Loads.Fb hab tc3 rfl)) rfl rfl trivial Among.refl (by rintro _ _ _ ⟨_, _, _, _, h, _⟩; cases h) (by kernel_rfl) (listed' := #[true, true, true, true, true, false, false, false]) rfl ?_
  refine StD.take (i := 5) (v := (.int .i64 was)) rfl (Yields.load rfl (Loads.Fb hwb tc3 rfl)) rfl rfl trivial Among.refl (by rintro _ _ _ ⟨_, _, _, _, h, _⟩; cases h) (by kernel_rfl) (listed' := #[true, true, true, true, true, true, false, false]) rfl ?_
  refine StD.take (i := 6) (v := (.pointer (some ⟨g, i.toNat, none⟩))) rfl (Yields.indexAddr ts23 rfl rfl h0 h1 (p := ⟨g, i.toNat, none⟩) (by rw [add_off]; simp)) rfl rfl trivial Among.refl (by rintro _ _ _ ⟨_, _, _, _, h, _⟩; cases h) (by kernel_rfl) (listed' := #[true, true, true, true, true, true, true, false]) rfl ?_
  refine StD.only (i := 7) rfl (by kernel_rfl) (listed' := #[true, true, true, true, true, true, true, true]) rfl ?_
  intro hcl1
  refine St.store_row (R := [blk SB (.cells #[.slice (some ⟨g, 0, none⟩) n cc, .slice TA t tc, .slice MA m mc] 40 (0, 0))]) rfl rfl 1 rfl rfl tc3 rfl (by rw [ints_length]; omega) trivial ?_
  refine StD.next hcl1 (fun h => by cases h) ?_
  refine StD.done (by kernel_rfl) ?_
  refine St.pick (R := [blk SB (.cells #[.slice (some ⟨g, 0, none⟩) n cc, .slice TA t tc, .slice MA m mc] 40 (0, 0))]) 0 rfl rfl ?_
  refine St.pick (R := [row (some ⟨g, 0, none⟩) n cc 3 1 ((ints cells).set i.toNat (.int .i64 was))]) 1 rfl rfl ?_
  rw [← ints_set]
  exact St.end0 rfl ⟨rfl, rfl, rfl⟩

theorem back_sp {F : PH} {SB : Nat} {CA TA MA : Option Addr} {n cc t tc m mc : Nat} {cells : List Int} {tr : List (Int × Int)} {tcells : List Value} {marks : List Int} {to : Nat} (hn : cells.length = n) (ht : tr.length = t) (hm : marks[m - 1]? = some (to : Int)) (hm1 : 0 < m) (hto : to ≤ t) (hix : ∀ e ∈ tr, 0 ≤ e.1 ∧ e.1 < n) (hT : Cat (TE SB) F tcells tr) (hb : t ≤ 100000) :
    CallSp Try.prog 24 #[.pointer (some ⟨SB, 0, none⟩)] F [blk SB (.cells #[.slice CA n cc, .slice TA t tc, .slice MA m mc] 40 (0, 0)), row CA n cc 3 1 (ints cells), row TA t tc 46 2 tcells, row MA m mc 3 1 (ints marks)] (fun u F' H' => u = .tuple #[] ∧ F = F' ∧ H' = [blk SB (.cells #[.slice CA n cc, .slice TA to tc, .slice MA m mc] 40 (0, 0)), row CA n cc 3 1 (ints (undo cells (tr.drop to))), row TA to tc 46 2 (tcells.take (to * 2)), row MA m mc 3 1 (ints marks)]) := by
  refine CallSp.enter (args := [.pointer (some ⟨SB, 0, none⟩)]) Try.func24 rfl rfl ?_
  intro w0 m0 hm0
  refine St.row_some 3 rfl hm1 ?_
  intro gm hg
  subst hg
  refine St.row_facts 3 rfl ?_
  intro hml hmc hmx
  unfold maxLen at hmx
  refine St.seq ?_
  refine StD.start [] [blk SB (.cells #[.slice CA n cc, .slice TA t tc, .slice (some ⟨gm, 0, none⟩) m mc] 40 (0, 0)), row CA n cc 3 1 (ints cells), row TA t tc 46 2 tcells, row (some ⟨gm, 0, none⟩) m mc 3 1 (ints marks)] hmix ?_
  refine StD.take (i := 0) (v := (.pointer (some ⟨SB, 0, none⟩))) rfl (Yields.move rfl) rfl rfl trivial Among.refl (by rintro _ _ _ ⟨_, _, _, _, h, _⟩; cases h) (by kernel_rfl) (listed' := #[true, false, false, false, false, false, false, false, false, false, false, false, false]) rfl ?_
  refine StD.take (i := 1) (v := (.pointer (some ⟨SB, 0, none⟩))) rfl (Yields.nilCheck rfl) rfl rfl trivial Among.refl (by rintro _ _ _ ⟨_, _, _, _, h, _⟩; cases h) (by kernel_rfl) (listed' := #[true, true, false, false, false, false, false, false, false, false, false, false, false]) rfl ?_
  refine StD.take (i := 2) (v := (.pointer (some ⟨SB, 2, none⟩))) rfl (Yields.fieldAddr (v := (.pointer (some ⟨SB, 2, none⟩))) rfl (fun _ => by kernel_rfl)) rfl rfl trivial Among.refl (by rintro _ _ _ ⟨_, _, _, _, h, _⟩; cases h) (by kernel_rfl) (listed' := #[true, true, true, false, false, false, false, false, false, false, false, false, false]) rfl ?_
  refine StD.take (i := 3) (v := (.slice (some ⟨gm, 0, none⟩) m mc)) rfl (Yields.load rfl (Loads.H1 0 rfl tc23 rfl)) rfl rfl trivial Among.refl (by rintro _ _ _ ⟨_, _, _, _, h, _⟩; cases h) (by kernel_rfl) (listed' := #[true, true, true, true, false, false, false, false, false, false, false, false, false]) rfl ?_
  refine StD.take (i := 4) (v := (.pointer (some ⟨SB, 0, none⟩))) rfl (Yields.move rfl) rfl rfl trivial Among.refl (by rintro _ _ _ ⟨_, _, _, _, h, _⟩; cases h) (by kernel_rfl) (listed' := #[true, true, true, true, true, false, false, false, false, false, false, false, false]) rfl ?_
  refine StD.take (i := 5) (v := (.pointer (some ⟨SB, 0, none⟩))) rfl (Yields.nilCheck rfl) rfl rfl trivial Among.refl (by rintro _ _ _ ⟨_, _, _, _, h, _⟩; cases h) (by kernel_rfl) (listed' := #[true, true, true, true, true, true, false, false, false, false, false, false, false]) rfl ?_
  refine StD.take (i := 6) (v := (.pointer (some ⟨SB, 2, none⟩))) rfl (Yields.fieldAddr (v := (.pointer (some ⟨SB, 2, none⟩))) rfl (fun _ => by kernel_rfl)) rfl rfl trivial Among.refl (by rintro _ _ _ ⟨_, _, _, _, h, _⟩; cases h) (by kernel_rfl) (listed' := #[true, true, true, true, true, true, true, false, false, false, false, false, false]) rfl ?_
  refine StD.take (i := 7) (v := (.slice (some ⟨gm, 0, none⟩) m mc)) rfl (Yields.load rfl (Loads.H1 0 rfl tc23 rfl)) rfl rfl trivial Among.refl (by rintro _ _ _ ⟨_, _, _, _, h, _⟩; cases h) (by kernel_rfl) (listed' := #[true, true, true, true, true, true, true, true, false, false, false, false, false]) rfl ?_
  refine StD.take (i := 8) (v := (.int .i64 (m : Int))) rfl (Yields.lenSlice tu23 rfl) rfl rfl trivial Among.refl (by rintro _ _ _ ⟨_, _, _, _, h, _⟩; cases h) (by kernel_rfl) (listed' := #[true, true, true, true, true, true, true, true, true, false, false, false, false]) rfl ?_
  refine StD.take (i := 9) (v := (.int .i64 ((m : Int) - 1))) rfl (Yields.sub rfl rfl (by omega) (by omega)) rfl rfl trivial Among.refl (by rintro _ _ _ ⟨_, _, _, _, h, _⟩; cases h) (by kernel_rfl) (listed' := #[true, true, true, true, true, true, true, true, true, true, false, false, false]) rfl ?_
  refine StD.take (i := 10) (v := (.pointer (some ⟨gm, m - 1, none⟩))) rfl (Yields.indexAddr ts23 rfl rfl (by omega) (by omega) (p := ⟨gm, m - 1, none⟩) (by rw [add_off]; congr 1; omega)) rfl rfl trivial Among.refl (by rintro _ _ _ ⟨_, _, _, _, h, _⟩; cases h) (by kernel_rfl) (listed' := #[true, true, true, true, true, true, true, true, true, true, true, false, false]) rfl ?_
  refine StD.take (i := 11) (v := (.int .i64 (to : Int))) rfl (Yields.load rfl (Loads.row1 3 rfl tc3 (u := .int .i64 to) (ints_get hm))) rfl rfl trivial Among.refl (by rintro _ _ _ ⟨_, _, _, _, h, _⟩; cases h) (by kernel_rfl) (listed' := #[true, true, true, true, true, true, true, true, true, true, true, true, false]) rfl ?_
  refine StD.take (i := 12) (v := (.int .i64 (to : Int))) rfl (Yields.assign rfl) rfl rfl trivial Among.refl (by rintro _ _ _ ⟨_, _, _, _, h, _⟩; cases h) (by kernel_rfl) (listed' := #[true, true, true, true, true, true, true, true, true, true, true, true, true]) rfl ?_
  refine StD.done (by kernel_rfl) ?_
  refine St.norm ?_
  refine St.block ?_
  have hundo0 : undo cells (tr.drop t) = cells := by rw [List.drop_of_length_le (by omega)]; rfl
  have htake0 : tcells.take (t * 2) = tcells := List.take_of_length_le (by rw [hT.length, ht]; exact Nat.le_refl _)
  refine St.loop (fun k a w => k ≤ t ∧ to ≤ k ∧ Has Try.f24.ntmps a [(0, .pointer (some ⟨SB, 0, none⟩)), (2, .int .i64 to)] ∧ Sat ⟨w0, fun b => m0 b ≠ none, F⟩ F [blk SB (.cells #[.slice CA n cc, .slice TA k tc, .slice (some ⟨gm, 0, none⟩) m mc] 40 (0, 0)), row CA n cc 3 1 (ints (undo cells (tr.drop k))), row TA k tc 46 2 (tcells.take (k * 2)), row (some ⟨gm, 0, none⟩) m mc 3 1 (ints marks)] w) t ?_ ?_
  · intro a w ha hs
    rw [hundo0, htake0]
    exact ⟨Nat.le_refl _, hto, ha.covers ⟨rfl, rfl, trivial⟩, hs⟩
  · rintro k a w ⟨hkt, hkto, ha, hs⟩
    refine St.use (?_ : St _ _ _ _ _ _) ha hs
    clear ha hs a w
    by_cases htest : (k : Int) > (to : Int)
    · skip
      obtain ⟨q, rfl⟩ : ∃ q, k = q + 1 := ⟨k - 1, by omega⟩
      obtain ⟨e, he⟩ : ∃ e, tr[q]? = some e := ⟨tr[q]'(by omega), List.getElem?_eq_getElem _⟩
      obtain ⟨ce, hce, hcg⟩ := hT.get he
      obtain ⟨wb, sb, ab, rfl, hwb, hsb, hab⟩ := hce
      have hcg : ∀ j v, _ → tcells[q * 2 + j]? = some v := hcg
      have hie := hix e (List.mem_of_getElem? he)
      refine St.row_some 2 rfl (by omega) ?_
      intro gt hg
      subst hg
      refine St.row_facts 2 rfl ?_
      intro _ htc _
      refine St.seq ?_
      refine St.seq ?_
      refine St.region ?_
      refine St.val (v := (.pointer (some ⟨SB, 0, none⟩))) (Yields.move rfl) trivial rfl rfl ?_
      refine St.val (v := (.pointer (some ⟨SB, 0, none⟩))) (Yields.nilCheck rfl) trivial rfl rfl ?_
      refine St.val (v := (.pointer (some ⟨SB, 1, none⟩))) (Yields.fieldAddr (v := (.pointer (some ⟨SB, 1, none⟩))) rfl (fun _ => by kernel_rfl)) trivial rfl rfl ?_
      refine St.val (v := (.slice (some ⟨gt, 0, none⟩) (q + 1) tc)) (Yields.load rfl (Loads.H1 0 rfl tc38 rfl)) trivial rfl rfl ?_
      refine St.val (v := (.int .i64 ((q + 1) : Int))) (Yields.lenSlice tu38 rfl) trivial rfl rfl ?_
      refine St.val (v := (.int .i64 (to : Int))) (Yields.move rfl) trivial rfl rfl ?_
      refine St.val (v := (.bool true)) (Yields.is htest (Yields.gt rfl rfl)) trivial rfl rfl ?_
      refine St.nil ?_
      refine St.norm ?_
      refine St.cond_t rfl ?_
      refine St.skip ?_
      refine St.norm ?_
      refine St.block ?_
      refine St.seq ?_
      refine StD.start [13] [blk SB (.cells #[.slice CA n cc, .slice (some ⟨gt, 0, none⟩) (q + 1) tc, .slice (some ⟨gm, 0, none⟩) m mc] 40 (0, 0)), row CA n cc 3 1 (ints (undo cells (tr.drop (q + 1)))), row (some ⟨gt, 0, none⟩) (q + 1) tc 46 2 (tcells.take ((q + 1) * 2)), row (some ⟨gm, 0, none⟩) m mc 3 1 (ints marks)] hmix ?_
      refine StD.take (i := 0) (v := (.pointer (some ⟨SB, 0, none⟩))) rfl (Yields.move rfl) rfl rfl trivial Among.refl (by rintro _ _ _ ⟨_, _, _, _, h, _⟩; cases h) (by kernel_rfl) (listed' := #[true, false, false, false, false, false, false, false, false, false, false, false, false, false]) rfl ?_
      refine StD.take (i := 1) (v := (.pointer (some ⟨SB, 0, none⟩))) rfl (Yields.nilCheck rfl) rfl rfl trivial Among.refl (by rintro _ _ _ ⟨_, _, _, _, h, _⟩; cases h) (by kernel_rfl) (listed' := #[true, true, false, false, false, false, false, false, false, false, false, false, false, false]) rfl ?_
      refine StD.take (i := 2) (v := (.pointer (some ⟨SB, 1, none⟩))) rfl (Yields.fieldAddr (v := (.pointer (some ⟨SB, 1, none⟩))) rfl (fun _ => by kernel_rfl)) rfl rfl trivial Among.refl (by rintro _ _ _ ⟨_, _, _, _, h, _⟩; cases h) (by kernel_rfl) (listed' := #[true, true, true, false, false, false, false, false, false, false, false, false, false, false]) rfl ?_
      refine StD.take (i := 3) (v := (.slice (some ⟨gt, 0, none⟩) (q + 1) tc)) rfl (Yields.load rfl (Loads.H1 0 rfl tc38 rfl)) rfl rfl trivial Among.refl (by rintro _ _ _ ⟨_, _, _, _, h, _⟩; cases h) (by kernel_rfl) (listed' := #[true, true, true, true, false, false, false, false, false, false, false, false, false, false]) rfl ?_
      refine StD.take (i := 4) (v := (.pointer (some ⟨SB, 0, none⟩))) rfl (Yields.move rfl) rfl rfl trivial Among.refl (by rintro _ _ _ ⟨_, _, _, _, h, _⟩; cases h) (by kernel_rfl) (listed' := #[true, true, true, true, true, false, false, false, false, false, false, false, false, false]) rfl ?_
      refine StD.take (i := 5) (v := (.pointer (some ⟨SB, 0, none⟩))) rfl (Yields.nilCheck rfl) rfl rfl trivial Among.refl (by rintro _ _ _ ⟨_, _, _, _, h, _⟩; cases h) (by kernel_rfl) (listed' := #[true, true, true, true, true, true, false, false, false, false, false, false, false, false]) rfl ?_
      refine StD.take (i := 6) (v := (.pointer (some ⟨SB, 1, none⟩))) rfl (Yields.fieldAddr (v := (.pointer (some ⟨SB, 1, none⟩))) rfl (fun _ => by kernel_rfl)) rfl rfl trivial Among.refl (by rintro _ _ _ ⟨_, _, _, _, h, _⟩; cases h) (by kernel_rfl) (listed' := #[true, true, true, true, true, true, true, false, false, false, false, false, false, false]) rfl ?_
      refine StD.take (i := 7) (v := (.slice (some ⟨gt, 0, none⟩) (q + 1) tc)) rfl (Yields.load rfl (Loads.H1 0 rfl tc38 rfl)) rfl rfl trivial Among.refl (by rintro _ _ _ ⟨_, _, _, _, h, _⟩; cases h) (by kernel_rfl) (listed' := #[true, true, true, true, true, true, true, true, false, false, false, false, false, false]) rfl ?_
      refine StD.take (i := 8) (v := (.int .i64 ((q + 1) : Int))) rfl (Yields.lenSlice tu38 rfl) rfl rfl trivial Among.refl (by rintro _ _ _ ⟨_, _, _, _, h, _⟩; cases h) (by kernel_rfl) (listed' := #[true, true, true, true, true, true, true, true, true, false, false, false, false, false]) rfl ?_
      refine StD.take (i := 9) (v := (.int .i64 (((q + 1) : Int) - 1))) rfl (Yields.sub rfl rfl (by omega) (by omega)) rfl rfl trivial Among.refl (by rintro _ _ _ ⟨_, _, _, _, h, _⟩; cases h) (by kernel_rfl) (listed' := #[true, true, true, true, true, true, true, true, true, true, false, false, false, false]) rfl ?_
      refine StD.take (i := 10) (v := (.pointer (some ⟨gt, q * 2, none⟩))) rfl (Yields.indexAddr ts38 rfl rfl (by omega) (by omega) (p := ⟨gt, q * 2, none⟩) (by rw [add_off]; congr 1; omega)) rfl rfl trivial Among.refl (by rintro _ _ _ ⟨_, _, _, _, h, _⟩; cases h) (by kernel_rfl) (listed' := #[true, true, true, true, true, true, true, true, true, true, true, false, false, false]) rfl ?_
      refine StD.take (i := 11) (v := (.pointer (some ⟨gt, q * 2 + 1, none⟩))) rfl (Yields.fieldAddr (v := (.pointer (some ⟨gt, q * 2 + 1, none⟩))) rfl (fun _ => by kernel_rfl)) rfl rfl trivial Among.refl (by rintro _ _ _ ⟨_, _, _, _, h, _⟩; cases h) (by kernel_rfl) (listed' := #[true, true, true, true, true, true, true, true, true, true, true, true, false, false]) rfl ?_
      refine StD.take (i := 12) (v := (.func (.func 26) #[] #[.pointer (some ⟨wb, 0, none⟩), .pointer (some ⟨sb, 0, none⟩), .pointer (some ⟨ab, 0, none⟩)])) rfl (Yields.load rfl (Loads.row1 2 rfl tc1 (u := (.func (.func 26) #[] #[.pointer (some ⟨wb, 0, none⟩), .pointer (some ⟨sb, 0, none⟩), .pointer (some ⟨ab, 0, none⟩)])) (by rw [List.getElem?_take, if_pos (by omega)]; exact hcg 1 _ rfl))) rfl rfl trivial Among.refl (by rintro _ _ _ ⟨_, _, _, _, h, _⟩; cases h) (by kernel_rfl) (listed' := #[true, true, true, true, true, true, true, true, true, true, true, true, true, false]) rfl ?_
      refine StD.only (i := 13) rfl (by kernel_rfl) (listed' := #[true, true, true, true, true, true, true, true, true, true, true, true, true, true]) rfl ?_
      intro hcl1
      refine St.pick (R := [blk SB (.cells #[.slice CA n cc, .slice (some ⟨gt, 0, none⟩) (q + 1) tc, .slice (some ⟨gm, 0, none⟩) m mc] 40 (0, 0)), row (some ⟨gt, 0, none⟩) (q + 1) tc 46 2 (tcells.take ((q + 1) * 2)), row (some ⟨gm, 0, none⟩) m mc 3 1 (ints marks)]) 1 rfl rfl ?_
      refine St.pick (R := [row CA n cc 3 1 (ints (undo cells (tr.drop (q + 1)))), row (some ⟨gt, 0, none⟩) (q + 1) tc 46 2 (tcells.take ((q + 1) * 2)), row (some ⟨gm, 0, none⟩) m mc 3 1 (ints marks)]) 1 rfl rfl ?_
      refine St.call [row (some ⟨gt, 0, none⟩) (q + 1) tc 46 2 (tcells.take ((q + 1) * 2)), row (some ⟨gm, 0, none⟩) m mc 3 1 (ints marks)] (put_sp (i := e.1) (was := e.2) hie.1 hie.2 (by rw [undo_length]; exact hn) hwb hsb hab) rfl (fun _ _ => ev0) rfl en26 rfl rfl trivial ?_
      rintro _ _F _ ⟨rfl, rfl, rfl⟩ hle2
      refine StD.next hcl1 (fun h => by cases h) ?_
      refine StD.done (by kernel_rfl) ?_
      refine St.norm ?_
      refine StD.start [14] [blk SB (.cells #[.slice CA n cc, .slice (some ⟨gt, 0, none⟩) (q + 1) tc, .slice (some ⟨gm, 0, none⟩) m mc] 40 (0, 0)), row CA n cc 3 1 (ints ((undo cells (tr.drop (q + 1))).set e.1.toNat e.2)), row (some ⟨gt, 0, none⟩) (q + 1) tc 46 2 (tcells.take ((q + 1) * 2)), row (some ⟨gm, 0, none⟩) m mc 3 1 (ints marks)] hmix ?_
      refine StD.take (i := 0) (v := (.pointer (some ⟨SB, 0, none⟩))) rfl (Yields.move rfl) rfl rfl trivial Among.refl (by rintro _ _ _ ⟨_, _, _, _, h, _⟩; cases h) (by kernel_rfl) (listed' := #[true, false, false, false, false, false, false, false, false, false, false, false, false, false, false]) rfl ?_
      refine StD.take (i := 1) (v := (.pointer (some ⟨SB, 0, none⟩))) rfl (Yields.move rfl) rfl rfl trivial Among.refl (by rintro _ _ _ ⟨_, _, _, _, h, _⟩; cases h) (by kernel_rfl) (listed' := #[true, true, false, false, false, false, false, false, false, false, false, false, false, false, false]) rfl ?_
      refine StD.take (i := 2) (v := (.pointer (some ⟨SB, 0, none⟩))) rfl (Yields.nilCheck rfl) rfl rfl trivial Among.refl (by rintro _ _ _ ⟨_, _, _, _, h, _⟩; cases h) (by kernel_rfl) (listed' := #[true, true, true, false, false, false, false, false, false, false, false, false, false, false, false]) rfl ?_
      refine StD.take (i := 3) (v := (.pointer (some ⟨SB, 1, none⟩))) rfl (Yields.fieldAddr (v := (.pointer (some ⟨SB, 1, none⟩))) rfl (fun _ => by kernel_rfl)) rfl rfl trivial Among.refl (by rintro _ _ _ ⟨_, _, _, _, h, _⟩; cases h) (by kernel_rfl) (listed' := #[true, true, true, true, false, false, false, false, false, false, false, false, false, false, false]) rfl ?_
      refine StD.take (i := 4) (v := (.slice (some ⟨gt, 0, none⟩) (q + 1) tc)) rfl (Yields.load rfl (Loads.H1 0 rfl tc38 rfl)) rfl rfl trivial Among.refl (by rintro _ _ _ ⟨_, _, _, _, h, _⟩; cases h) (by kernel_rfl) (listed' := #[true, true, true, true, true, false, false, false, false, false, false, false, false, false, false]) rfl ?_
      refine StD.take (i := 5) (v := (.pointer (some ⟨SB, 0, none⟩))) rfl (Yields.move rfl) rfl rfl trivial Among.refl (by rintro _ _ _ ⟨_, _, _, _, h, _⟩; cases h) (by kernel_rfl) (listed' := #[true, true, true, true, true, true, false, false, false, false, false, false, false, false, false]) rfl ?_
      refine StD.take (i := 6) (v := (.pointer (some ⟨SB, 0, none⟩))) rfl (Yields.nilCheck rfl) rfl rfl trivial Among.refl (by rintro _ _ _ ⟨_, _, _, _, h, _⟩; cases h) (by kernel_rfl) (listed' := #[true, true, true, true, true, true, true, false, false, false, false, false, false, false, false]) rfl ?_
      refine StD.take (i := 7) (v := (.pointer (some ⟨SB, 1, none⟩))) rfl (Yields.fieldAddr (v := (.pointer (some ⟨SB, 1, none⟩))) rfl (fun _ => by kernel_rfl)) rfl rfl trivial Among.refl (by rintro _ _ _ ⟨_, _, _, _, h, _⟩; cases h) (by kernel_rfl) (listed' := #[true, true, true, true, true, true, true, true, false, false, false, false, false, false, false]) rfl ?_
      refine StD.take (i := 8) (v := (.slice (some ⟨gt, 0, none⟩) (q + 1) tc)) rfl (Yields.load rfl (Loads.H1 0 rfl tc38 rfl)) rfl rfl trivial Among.refl (by rintro _ _ _ ⟨_, _, _, _, h, _⟩; cases h) (by kernel_rfl) (listed' := #[true, true, true, true, true, true, true, true, true, false, false, false, false, false, false]) rfl ?_
      refine StD.take (i := 9) (v := (.int .i64 ((q + 1) : Int))) rfl (Yields.lenSlice tu38 rfl) rfl rfl trivial Among.refl (by rintro _ _ _ ⟨_, _, _, _, h, _⟩; cases h) (by kernel_rfl) (listed' := #[true, true, true, true, true, true, true, true, true, true, false, false, false, false, false]) rfl ?_
      refine StD.take (i := 10) (v := (.int .i64 (((q + 1) : Int) - 1))) rfl (Yields.sub rfl rfl (by omega) (by omega)) rfl rfl trivial Among.refl (by rintro _ _ _ ⟨_, _, _, _, h, _⟩; cases h) (by kernel_rfl) (listed' := #[true, true, true, true, true, true, true, true, true, true, true, false, false, false, false]) rfl ?_
      refine StD.take (i := 11) (v := (.slice (some ⟨gt, 0, none⟩) q tc)) rfl (Yields.sliceTo (k' := q) ts38 rfl rfl (by omega) (by omega)) rfl rfl trivial Among.refl (by rintro _ _ _ ⟨_, _, _, _, h, _⟩; cases h) (by kernel_rfl) (listed' := #[true, true, true, true, true, true, true, true, true, true, true, true, false, false, false]) rfl ?_
      refine StD.take (i := 12) (v := (.pointer (some ⟨SB, 0, none⟩))) rfl (Yields.nilCheck rfl) rfl rfl trivial Among.refl (by rintro _ _ _ ⟨_, _, _, _, h, _⟩; cases h) (by kernel_rfl) (listed' := #[true, true, true, true, true, true, true, true, true, true, true, true, true, false, false]) rfl ?_
      refine StD.take (i := 13) (v := (.pointer (some ⟨SB, 1, none⟩))) rfl (Yields.fieldAddr (v := (.pointer (some ⟨SB, 1, none⟩))) rfl (fun _ => by kernel_rfl)) rfl rfl trivial Among.refl (by rintro _ _ _ ⟨_, _, _, _, h, _⟩; cases h) (by kernel_rfl) (listed' := #[true, true, true, true, true, true, true, true, true, true, true, true, true, true, false]) rfl ?_
      refine StD.only (i := 14) rfl (by kernel_rfl) (listed' := #[true, true, true, true, true, true, true, true, true, true, true, true, true, true, true]) rfl ?_
      intro hcl3
      refine St.store (R := [row CA n cc 3 1 (ints ((undo cells (tr.drop (q + 1))).set e.1.toNat e.2)), row (some ⟨gt, 0, none⟩) (q + 1) tc 46 2 (tcells.take ((q + 1) * 2)), row (some ⟨gm, 0, none⟩) m mc 3 1 (ints marks)]) rfl rfl 0 rfl rfl tc38 rfl rfl trivial (cs' := #[.slice CA n cc, .slice (some ⟨gt, 0, none⟩) q tc, .slice (some ⟨gm, 0, none⟩) m mc]) rfl ?_
      refine StD.next hcl3 (fun h => by cases h) ?_
      refine StD.done (by kernel_rfl) ?_
      refine St.innorm ?_
      refine St.norm ?_
      refine St.weak (R := [blk SB (.cells #[.slice CA n cc, .slice (some ⟨gt, 0, none⟩) q tc, .slice (some ⟨gm, 0, none⟩) m mc] 40 (0, 0)), row CA n cc 3 1 (ints ((undo cells (tr.drop (q + 1))).set e.1.toNat e.2)), row (some ⟨gm, 0, none⟩) m mc 3 1 (ints marks)]) (c' := row (some ⟨gt, 0, none⟩) q tc 46 2 (tcells.take (q * 2))) 2 rfl rfl (fun m hm => by have h := row_take q (by omega) hm; rw [List.take_take, Nat.min_eq_left (by omega)] at h; exact h) ?_
      rw [← undo_drop cells he]
      intro a w ha hs
      exact ⟨q, by omega, by omega, by omega, ha.covers ⟨rfl, rfl, trivial⟩, (Among.of (Among.take 1 rfl rfl (Among.take 1 rfl rfl (Among.take 0 rfl rfl (Among.take 0 rfl rfl Among.none)))) _ hs)⟩
    · skip
      refine St.seq ?_
      refine St.seq ?_
      refine St.region ?_
      refine St.val (v := (.pointer (some ⟨SB, 0, none⟩))) (Yields.move rfl) trivial rfl rfl ?_
      refine St.val (v := (.pointer (some ⟨SB, 0, none⟩))) (Yields.nilCheck rfl) trivial rfl rfl ?_
      refine St.val (v := (.pointer (some ⟨SB, 1, none⟩))) (Yields.fieldAddr (v := (.pointer (some ⟨SB, 1, none⟩))) rfl (fun _ => by kernel_rfl)) trivial rfl rfl ?_
      refine St.val (v := (.slice TA k tc)) (Yields.load rfl (Loads.H1 0 rfl tc38 rfl)) trivial rfl rfl ?_
      refine St.val (v := (.int .i64 (k : Int))) (Yields.lenSlice tu38 rfl) trivial rfl rfl ?_
      refine St.val (v := (.int .i64 (to : Int))) (Yields.move rfl) trivial rfl rfl ?_
      refine St.val (v := (.bool false)) (Yields.isnt htest (Yields.gt rfl rfl)) trivial rfl rfl ?_
      refine St.nil ?_
      refine St.norm ?_
      refine St.cond_f rfl ?_
      refine St.exit ?_
      refine St.thenexit ?_
      refine St.thenexit ?_
      refine St.inexit ?_
      obtain rfl : k = to := by omega
      exact St.end0 rfl ⟨rfl, rfl, rfl⟩

theorem drop_sp {F : PH} {SB : Nat} {CA TA MA : Option Addr} {n cc t tc q mc sb : Nat} {marks : List Int} (hml : marks.length = q + 1) (hq : q ≤ 100000) (hsb : F sb = some (.cells #[.pointer (some ⟨SB, 0, none⟩)] 35 (0, 0))) :
    CallSp Try.prog 20 #[.pointer (some ⟨sb, 0, none⟩)] F [blk SB (.cells #[.slice CA n cc, .slice TA t tc, .slice MA (q + 1) mc] 40 (0, 0)), row MA (q + 1) mc 3 1 (ints marks)] (fun u F' H' => u = .tuple #[] ∧ F = F' ∧ H' = [blk SB (.cells #[.slice CA n cc, .slice TA t tc, .slice MA q mc] 40 (0, 0)), row MA q mc 3 1 (ints marks.dropLast)]) := by
  refine CallSp.enter (args := [.pointer (some ⟨sb, 0, none⟩)]) Try.func20 rfl rfl ?_
  intro w0 m0 hm0
  refine St.row_facts 1 rfl ?_
  intro _ hqc _
  refine StD.start [14] [blk SB (.cells #[.slice CA n cc, .slice TA t tc, .slice MA (q + 1) mc] 40 (0, 0)), row MA (q + 1) mc 3 1 (ints marks)] hmix ?_
  refine StD.take (i := 0) (v := (.pointer (some ⟨SB, 0, none⟩))) rfl (Yields.load rfl (Loads.Fb hsb tc35 rfl)) rfl rfl trivial Among.refl (by rintro _ _ _ ⟨_, _, _, _, h, _⟩; cases h) (by kernel_rfl) (listed' := #[true, false, false, false, false, false, false, false, false, false, false, false, false, false, false]) rfl ?_
  refine StD.take (i := 1) (v := (.pointer (some ⟨SB, 0, none⟩))) rfl (Yields.load rfl (Loads.Fb hsb tc35 rfl)) rfl rfl trivial Among.refl (by rintro _ _ _ ⟨_, _, _, _, h, _⟩; cases h) (by kernel_rfl) (listed' := #[true, true, false, false, false, false, false, false, false, false, false, false, false, false, false]) rfl ?_
  refine StD.take (i := 2) (v := (.pointer (some ⟨SB, 0, none⟩))) rfl (Yields.nilCheck rfl) rfl rfl trivial Among.refl (by rintro _ _ _ ⟨_, _, _, _, h, _⟩; cases h) (by kernel_rfl) (listed' := #[true, true, true, false, false, false, false, false, false, false, false, false, false, false, false]) rfl ?_
  refine StD.take (i := 3) (v := (.pointer (some ⟨SB, 2, none⟩))) rfl (Yields.fieldAddr (v := (.pointer (some ⟨SB, 2, none⟩))) rfl (fun _ => by kernel_rfl)) rfl rfl trivial Among.refl (by rintro _ _ _ ⟨_, _, _, _, h, _⟩; cases h) (by kernel_rfl) (listed' := #[true, true, true, true, false, false, false, false, false, false, false, false, false, false, false]) rfl ?_
  refine StD.take (i := 4) (v := (.slice MA (q + 1) mc)) rfl (Yields.load rfl (Loads.H1 0 rfl tc23 rfl)) rfl rfl trivial Among.refl (by rintro _ _ _ ⟨_, _, _, _, h, _⟩; cases h) (by kernel_rfl) (listed' := #[true, true, true, true, true, false, false, false, false, false, false, false, false, false, false]) rfl ?_
  refine StD.take (i := 5) (v := (.pointer (some ⟨SB, 0, none⟩))) rfl (Yields.load rfl (Loads.Fb hsb tc35 rfl)) rfl rfl trivial Among.refl (by rintro _ _ _ ⟨_, _, _, _, h, _⟩; cases h) (by kernel_rfl) (listed' := #[true, true, true, true, true, true, false, false, false, false, false, false, false, false, false]) rfl ?_
  refine StD.take (i := 6) (v := (.pointer (some ⟨SB, 0, none⟩))) rfl (Yields.nilCheck rfl) rfl rfl trivial Among.refl (by rintro _ _ _ ⟨_, _, _, _, h, _⟩; cases h) (by kernel_rfl) (listed' := #[true, true, true, true, true, true, true, false, false, false, false, false, false, false, false]) rfl ?_
  refine StD.take (i := 7) (v := (.pointer (some ⟨SB, 2, none⟩))) rfl (Yields.fieldAddr (v := (.pointer (some ⟨SB, 2, none⟩))) rfl (fun _ => by kernel_rfl)) rfl rfl trivial Among.refl (by rintro _ _ _ ⟨_, _, _, _, h, _⟩; cases h) (by kernel_rfl) (listed' := #[true, true, true, true, true, true, true, true, false, false, false, false, false, false, false]) rfl ?_
  refine StD.take (i := 8) (v := (.slice MA (q + 1) mc)) rfl (Yields.load rfl (Loads.H1 0 rfl tc23 rfl)) rfl rfl trivial Among.refl (by rintro _ _ _ ⟨_, _, _, _, h, _⟩; cases h) (by kernel_rfl) (listed' := #[true, true, true, true, true, true, true, true, true, false, false, false, false, false, false]) rfl ?_
  refine StD.take (i := 9) (v := (.int .i64 ((q + 1) : Int))) rfl (Yields.lenSlice tu23 rfl) rfl rfl trivial Among.refl (by rintro _ _ _ ⟨_, _, _, _, h, _⟩; cases h) (by kernel_rfl) (listed' := #[true, true, true, true, true, true, true, true, true, true, false, false, false, false, false]) rfl ?_
  refine StD.take (i := 10) (v := (.int .i64 (((q + 1) : Int) - 1))) rfl (Yields.sub rfl rfl (by omega) (by omega)) rfl rfl trivial Among.refl (by rintro _ _ _ ⟨_, _, _, _, h, _⟩; cases h) (by kernel_rfl) (listed' := #[true, true, true, true, true, true, true, true, true, true, true, false, false, false, false]) rfl ?_
  refine StD.take (i := 11) (v := (.slice MA q mc)) rfl (Yields.sliceTo (k' := q) ts23 rfl rfl (by omega) (by omega)) rfl rfl trivial Among.refl (by rintro _ _ _ ⟨_, _, _, _, h, _⟩; cases h) (by kernel_rfl) (listed' := #[true, true, true, true, true, true, true, true, true, true, true, true, false, false, false]) rfl ?_
  refine StD.take (i := 12) (v := (.pointer (some ⟨SB, 0, none⟩))) rfl (Yields.nilCheck rfl) rfl rfl trivial Among.refl (by rintro _ _ _ ⟨_, _, _, _, h, _⟩; cases h) (by kernel_rfl) (listed' := #[true, true, true, true, true, true, true, true, true, true, true, true, true, false, false]) rfl ?_
  refine StD.take (i := 13) (v := (.pointer (some ⟨SB, 2, none⟩))) rfl (Yields.fieldAddr (v := (.pointer (some ⟨SB, 2, none⟩))) rfl (fun _ => by kernel_rfl)) rfl rfl trivial Among.refl (by rintro _ _ _ ⟨_, _, _, _, h, _⟩; cases h) (by kernel_rfl) (listed' := #[true, true, true, true, true, true, true, true, true, true, true, true, true, true, false]) rfl ?_
  refine StD.only (i := 14) rfl (by kernel_rfl) (listed' := #[true, true, true, true, true, true, true, true, true, true, true, true, true, true, true]) rfl ?_
  intro hcl1
  refine St.store (R := [row MA (q + 1) mc 3 1 (ints marks)]) rfl rfl 0 rfl rfl tc23 rfl rfl trivial (cs' := #[.slice CA n cc, .slice TA t tc, .slice MA q mc]) rfl ?_
  refine StD.next hcl1 (fun h => by cases h) ?_
  refine StD.done (by kernel_rfl) ?_
  refine St.weak (R := [blk SB (.cells #[.slice CA n cc, .slice TA t tc, .slice MA q mc] 40 (0, 0))]) (c' := row MA q mc 3 1 (ints marks.dropLast)) 1 rfl rfl (fun m hm => by have h := row_take q (by omega) hm; rwa [ints_dropLast hml] at h) ?_
  refine St.pick (R := [blk SB (.cells #[.slice CA n cc, .slice TA t tc, .slice MA q mc] 40 (0, 0))]) 0 rfl rfl ?_
  refine St.pick (R := [row MA q mc 3 1 (ints marks.dropLast)]) 1 rfl rfl ?_
  exact St.end0 rfl ⟨rfl, rfl, rfl⟩

theorem chg_sp {F : PH} {SB : Nat} {CA TA MA : Option Addr} {n cc t tc m mc sb xb : Nat} {cells : List Int} {tr : List (Int × Int)} {tcells : List Value} {x : Sh} {was : Int} (h0 : 0 ≤ x.a) (h1 : x.a < n) (hwas : cells[x.a.toNat]? = some was) (hT : Cat (TE SB) F tcells tr) (hb : t ≤ 100000) (hsb : F sb = some (.cells #[.pointer (some ⟨SB, 0, none⟩)] 35 (0, 0))) (hxb : F xb = some (.cells #[.int .i64 x.k, .int .i64 x.a, .int .i64 x.v] 29 (0, 0))) :
    CallSp Try.prog 21 #[.pointer (some ⟨sb, 0, none⟩), .pointer (some ⟨xb, 0, none⟩)] F [blk SB (.cells #[.slice CA n cc, .slice TA t tc, .slice MA m mc] 40 (0, 0)), row CA n cc 3 1 (ints cells), row TA t tc 46 2 tcells] (fun u F' H' => ∃ TA' tc' tcells', u = .tuple #[] ∧ H' = [blk SB (.cells #[.slice CA n cc, .slice TA' (t + 1) tc', .slice MA m mc] 40 (0, 0)), row CA n cc 3 1 (ints (cells.set x.a.toNat x.v)), row TA' (t + 1) tc' 46 2 tcells'] ∧ Cat (TE SB) F' tcells' (tr ++ [(x.a, was)])) := by
  refine CallSp.enter (args := [.pointer (some ⟨sb, 0, none⟩), .pointer (some ⟨xb, 0, none⟩)]) Try.func21 rfl rfl ?_
  intro w0 m0 hm0
  refine St.region ?_
  refine St.val (v := (.pointer (some ⟨SB, 0, none⟩))) (Yields.load rfl (Loads.Fb hsb tc35 rfl)) trivial rfl rfl ?_
  refine St.val (v := (.pointer (some ⟨xb, 1, none⟩))) (Yields.fieldAddr (v := (.pointer (some ⟨xb, 1, none⟩))) rfl (fun _ => by kernel_rfl)) trivial rfl rfl ?_
  refine St.val (v := (.int .i64 x.a)) (Yields.load rfl (Loads.Fb hxb tc3 rfl)) trivial rfl rfl ?_
  refine St.val (v := (.pointer (some ⟨xb, 2, none⟩))) (Yields.fieldAddr (v := (.pointer (some ⟨xb, 2, none⟩))) rfl (fun _ => by kernel_rfl)) trivial rfl rfl ?_
  refine St.val (v := (.int .i64 x.v)) (Yields.load rfl (Loads.Fb hxb tc3 rfl)) trivial rfl rfl ?_
  refine St.pick (R := [blk SB (.cells #[.slice CA n cc, .slice TA t tc, .slice MA m mc] 40 (0, 0)), row CA n cc 3 1 (ints cells)]) 2 rfl rfl ?_
  refine St.pick (R := [row TA t tc 46 2 tcells, blk SB (.cells #[.slice CA n cc, .slice TA t tc, .slice MA m mc] 40 (0, 0))]) 2 rfl rfl ?_
  refine St.pick (R := [row CA n cc 3 1 (ints cells), row TA t tc 46 2 tcells]) 2 rfl rfl ?_
  refine St.call [] (set_sp h0 h1 hwas hT hb) rfl (fun _ ha => ev3 ha rfl rfl rfl) rfl en22 rfl rfl trivial ?_
  rintro _ F1 _ ⟨TA', tc', tcells', rfl, rfl, hT1⟩ hle1
  have hsb := hle1 _ _ hsb
  have hxb := hle1 _ _ hxb
  replace hT := Cat.mono hle1 hT
  refine St.nil ?_
  exact St.end0 rfl ⟨_, _, _, rfl, rfl, hT1⟩

theorem mark_sp {F : PH} {SB : Nat} {CA TA MA : Option Addr} {n cc t tc m mc sb : Nat} {marks : List Int} (hq : m ≤ 100000) (hsb : F sb = some (.cells #[.pointer (some ⟨SB, 0, none⟩)] 35 (0, 0))) :
    CallSp Try.prog 23 #[.pointer (some ⟨sb, 0, none⟩)] F [blk SB (.cells #[.slice CA n cc, .slice TA t tc, .slice MA m mc] 40 (0, 0)), row MA m mc 3 1 (ints marks)] (fun u F' H' => ∃ MA' mc', u = .tuple #[] ∧ F = F' ∧ H' = [blk SB (.cells #[.slice CA n cc, .slice TA t tc, .slice MA' (m + 1) mc'] 40 (0, 0)), row MA' (m + 1) mc' 3 1 (ints (marks ++ [(t : Int)]))]) := by
  refine CallSp.enter (args := [.pointer (some ⟨sb, 0, none⟩)]) Try.func23 rfl rfl ?_
  intro w0 m0 hm0
  refine StD.start [14] [blk SB (.cells #[.slice CA n cc, .slice TA t tc, .slice MA m mc] 40 (0, 0))] hmix ?_
  refine StD.take (i := 0) (v := (.pointer (some ⟨SB, 0, none⟩))) rfl (Yields.load rfl (Loads.Fb hsb tc35 rfl)) rfl rfl trivial (Among.of (Among.take 0 rfl rfl Among.none)) (by rintro _ _ _ ⟨_, _, _, _, h, _⟩; cases h) (by kernel_rfl) (listed' := #[true, false, false, false, false, false, false, false, false, false, false, false, false, false, false]) rfl ?_
  refine StD.take (i := 1) (v := (.pointer (some ⟨SB, 0, none⟩))) rfl (Yields.load rfl (Loads.Fb hsb tc35 rfl)) rfl rfl trivial (Among.of (Among.take 0 rfl rfl Among.none)) (by rintro _ _ _ ⟨_, _, _, _, h, _⟩; cases h) (by kernel_rfl) (listed' := #[true, true, false, false, false, false, false, false, false, false, false, false, false, false, false]) rfl ?_
  refine StD.take (i := 2) (v := (.pointer (some ⟨SB, 0, none⟩))) rfl (Yields.nilCheck rfl) rfl rfl trivial (Among.of (Among.take 0 rfl rfl Among.none)) (by rintro _ _ _ ⟨_, _, _, _, h, _⟩; cases h) (by kernel_rfl) (listed' := #[true, true, true, false, false, false, false, false, false, false, false, false, false, false, false]) rfl ?_
  refine StD.take (i := 3) (v := (.pointer (some ⟨SB, 2, none⟩))) rfl (Yields.fieldAddr (v := (.pointer (some ⟨SB, 2, none⟩))) rfl (fun _ => by kernel_rfl)) rfl rfl trivial (Among.of (Among.take 0 rfl rfl Among.none)) (by rintro _ _ _ ⟨_, _, _, _, h, _⟩; cases h) (by kernel_rfl) (listed' := #[true, true, true, true, false, false, false, false, false, false, false, false, false, false, false]) rfl ?_
  refine StD.take (i := 4) (v := (.slice MA m mc)) rfl (Yields.load rfl (Loads.H1 0 rfl tc23 rfl)) rfl rfl trivial (Among.of (Among.take 0 rfl rfl Among.none)) (by rintro _ _ _ ⟨_, _, _, _, h, _⟩; cases h) (by kernel_rfl) (listed' := #[true, true, true, true, true, false, false, false, false, false, false, false, false, false, false]) rfl ?_
  refine StD.take (i := 5) (v := (.pointer (some ⟨SB, 0, none⟩))) rfl (Yields.load rfl (Loads.Fb hsb tc35 rfl)) rfl rfl trivial (Among.of (Among.take 0 rfl rfl Among.none)) (by rintro _ _ _ ⟨_, _, _, _, h, _⟩; cases h) (by kernel_rfl) (listed' := #[true, true, true, true, true, true, false, false, false, false, false, false, false, false, false]) rfl ?_
  refine StD.take (i := 6) (v := (.pointer (some ⟨SB, 0, none⟩))) rfl (Yields.nilCheck rfl) rfl rfl trivial (Among.of (Among.take 0 rfl rfl Among.none)) (by rintro _ _ _ ⟨_, _, _, _, h, _⟩; cases h) (by kernel_rfl) (listed' := #[true, true, true, true, true, true, true, false, false, false, false, false, false, false, false]) rfl ?_
  refine StD.take (i := 7) (v := (.pointer (some ⟨SB, 1, none⟩))) rfl (Yields.fieldAddr (v := (.pointer (some ⟨SB, 1, none⟩))) rfl (fun _ => by kernel_rfl)) rfl rfl trivial (Among.of (Among.take 0 rfl rfl Among.none)) (by rintro _ _ _ ⟨_, _, _, _, h, _⟩; cases h) (by kernel_rfl) (listed' := #[true, true, true, true, true, true, true, true, false, false, false, false, false, false, false]) rfl ?_
  refine StD.take (i := 8) (v := (.slice TA t tc)) rfl (Yields.load rfl (Loads.H1 0 rfl tc38 rfl)) rfl rfl trivial (Among.of (Among.take 0 rfl rfl Among.none)) (by rintro _ _ _ ⟨_, _, _, _, h, _⟩; cases h) (by kernel_rfl) (listed' := #[true, true, true, true, true, true, true, true, true, false, false, false, false, false, false]) rfl ?_
  refine StD.take (i := 9) (v := (.int .i64 (t : Int))) rfl (Yields.lenSlice tu38 rfl) rfl rfl trivial (Among.of (Among.take 0 rfl rfl Among.none)) (by rintro _ _ _ ⟨_, _, _, _, h, _⟩; cases h) (by kernel_rfl) (listed' := #[true, true, true, true, true, true, true, true, true, true, false, false, false, false, false]) rfl ?_
  refine StD.only (i := 10) rfl (by kernel_rfl) (listed' := #[true, true, true, true, true, true, true, true, true, true, true, false, false, false, false]) rfl ?_
  intro hcl1
  refine St.buildSlice (e := 3) (cells := #[.int .i64 (t : Int)]) (vs := #[(0, .int .i64 (t : Int))]) (fun _ ha => evp1 ha rfl) (fun _ => by kernel_rfl) rfl trivial ?_
  intro b2
  refine StD.next hcl1 (fun _ => (Among.of (Among.take 1 rfl rfl Among.none))) ?_
  refine StD.only (i := 11) rfl (by kernel_rfl) (listed' := #[true, true, true, true, true, true, true, true, true, true, true, true, false, false, false]) rfl ?_
  intro hcl3
  refine St.append_lit (R := [blk b2 (.cells #[.int .i64 (t : Int)] 3 (0, 0)), blk SB (.cells #[.slice CA n cc, .slice TA t tc, .slice MA m mc] 40 (0, 0))]) ts23 rfl rfl rfl 2 rfl rfl 0 rfl rfl rfl (by omega) rfl rfl trivial ?_
  intro A4 c5
  refine St.pick (R := [row A4 (m + 1) c5 3 1 ((ints marks) ++ [.int .i64 (t : Int)]), blk SB (.cells #[.slice CA n cc, .slice TA t tc, .slice MA m mc] 40 (0, 0))]) 1 rfl rfl ?_
  refine St.drop ?_
  refine StD.next hcl3 (fun _ => (Among.of (Among.take 1 rfl rfl Among.none))) ?_
  refine StD.take (i := 12) (v := (.pointer (some ⟨SB, 0, none⟩))) rfl (Yields.nilCheck rfl) rfl rfl trivial (Among.of (Among.take 1 rfl rfl Among.none)) (by rintro _ _ _ ⟨_, _, _, _, h, _⟩; cases h) (by kernel_rfl) (listed' := #[true, true, true, true, true, true, true, true, true, true, true, true, true, false, false]) rfl ?_
  refine StD.take (i := 13) (v := (.pointer (some ⟨SB, 2, none⟩))) rfl (Yields.fieldAddr (v := (.pointer (some ⟨SB, 2, none⟩))) rfl (fun _ => by kernel_rfl)) rfl rfl trivial (Among.of (Among.take 1 rfl rfl Among.none)) (by rintro _ _ _ ⟨_, _, _, _, h, _⟩; cases h) (by kernel_rfl) (listed' := #[true, true, true, true, true, true, true, true, true, true, true, true, true, true, false]) rfl ?_
  refine StD.only (i := 14) rfl (by kernel_rfl) (listed' := #[true, true, true, true, true, true, true, true, true, true, true, true, true, true, true]) rfl ?_
  intro hcl6
  refine St.store (R := [row A4 (m + 1) c5 3 1 ((ints marks) ++ [.int .i64 (t : Int)])]) rfl rfl 1 rfl rfl tc23 rfl rfl trivial (cs' := #[.slice CA n cc, .slice TA t tc, .slice A4 (m + 1) c5]) rfl ?_
  refine StD.next hcl6 (fun h => by cases h) ?_
  refine StD.done (by kernel_rfl) ?_
  refine St.pick (R := [blk SB (.cells #[.slice CA n cc, .slice TA t tc, .slice A4 (m + 1) c5] 40 (0, 0))]) 1 rfl rfl ?_
  refine St.pick (R := [row A4 (m + 1) c5 3 1 ((ints marks) ++ [.int .i64 (t : Int)])]) 1 rfl rfl ?_
  exact St.end0 rfl ⟨_, _, rfl, rfl, by rw [ints_snoc]⟩

theorem undo_sp {F : PH} {SB : Nat} {CA TA MA : Option Addr} {n cc t tc q mc sb db : Nat} {cells : List Int} {tr : List (Int × Int)} {tcells : List Value} {marks : List Int} {to : Nat} (hn : cells.length = n) (ht : tr.length = t) (hm : marks[q]? = some (to : Int)) (hml : marks.length = q + 1) (hq : q ≤ 100000) (hto : to ≤ t) (hix : ∀ e ∈ tr, 0 ≤ e.1 ∧ e.1 < n) (hT : Cat (TE SB) F tcells tr) (hb : t ≤ 100000) (hsb : F sb = some (.cells #[.pointer (some ⟨SB, 0, none⟩)] 35 (0, 0))) (hdb : F db = some (.cells #[.func (.func 20) #[] #[.pointer (some ⟨sb, 0, none⟩)]] 1 (0, 0))) :
    CallSp Try.prog 25 #[.pointer (some ⟨sb, 0, none⟩), .pointer (some ⟨db, 0, none⟩)] F [blk SB (.cells #[.slice CA n cc, .slice TA t tc, .slice MA (q + 1) mc] 40 (0, 0)), row CA n cc 3 1 (ints cells), row TA t tc 46 2 tcells, row MA (q + 1) mc 3 1 (ints marks)] (fun u F' H' => u = .tuple #[] ∧ F = F' ∧ H' = [blk SB (.cells #[.slice CA n cc, .slice TA to tc, .slice MA q mc] 40 (0, 0)), row CA n cc 3 1 (ints (undo cells (tr.drop to))), row TA to tc 46 2 (tcells.take (to * 2)), row MA q mc 3 1 (ints marks.dropLast)]) := by
  refine CallSp.enter (args := [.pointer (some ⟨sb, 0, none⟩), .pointer (some ⟨db, 0, none⟩)]) Try.func25 rfl rfl ?_
  intro w0 m0 hm0
  refine St.seq ?_
  refine St.region ?_
  refine St.val (v := (.pointer (some ⟨SB, 0, none⟩))) (Yields.load rfl (Loads.Fb hsb tc35 rfl)) trivial rfl rfl ?_
  refine St.pick (R := [blk SB (.cells #[.slice CA n cc, .slice TA t tc, .slice MA (q + 1) mc] 40 (0, 0)), row CA n cc 3 1 (ints cells), row TA t tc 46 2 tcells]) 3 rfl rfl ?_
  refine St.pick (R := [row MA (q + 1) mc 3 1 (ints marks), blk SB (.cells #[.slice CA n cc, .slice TA t tc, .slice MA (q + 1) mc] 40 (0, 0)), row CA n cc 3 1 (ints cells)]) 3 rfl rfl ?_
  refine St.pick (R := [row TA t tc 46 2 tcells, row MA (q + 1) mc 3 1 (ints marks), blk SB (.cells #[.slice CA n cc, .slice TA t tc, .slice MA (q + 1) mc] 40 (0, 0))]) 3 rfl rfl ?_
  refine St.pick (R := [row CA n cc 3 1 (ints cells), row TA t tc 46 2 tcells, row MA (q + 1) mc 3 1 (ints marks)]) 3 rfl rfl ?_
  refine St.call [] (back_sp hn ht hm (by omega) hto hix hT hb) rfl (fun _ ha => ev1 ha rfl) rfl en24 rfl rfl trivial ?_
  rintro _ _F _ ⟨rfl, rfl, rfl⟩ hle1
  refine St.nil ?_
  refine St.norm ?_
  refine St.region ?_
  refine St.val (v := (.func (.func 20) #[] #[.pointer (some ⟨sb, 0, none⟩)])) (Yields.load rfl (Loads.Fb hdb tc1 rfl)) trivial rfl rfl ?_
  refine St.pick (R := [blk SB (.cells #[.slice CA n cc, .slice TA to tc, .slice MA (q + 1) mc] 40 (0, 0)), row CA n cc 3 1 (ints (undo cells (tr.drop to))), row TA to tc 46 2 (tcells.take (to * 2))]) 3 rfl rfl ?_
  refine St.pick (R := [row MA (q + 1) mc 3 1 (ints marks), row CA n cc 3 1 (ints (undo cells (tr.drop to))), row TA to tc 46 2 (tcells.take (to * 2))]) 1 rfl rfl ?_
  refine St.call [row CA n cc 3 1 (ints (undo cells (tr.drop to))), row TA to tc 46 2 (tcells.take (to * 2))] (drop_sp hml hq hsb) rfl (fun _ _ => ev0) rfl en20 rfl rfl trivial ?_
  rintro _ _F _ ⟨rfl, rfl, rfl⟩ hle2
  refine St.nil ?_
  refine St.pick (R := [blk SB (.cells #[.slice CA n cc, .slice TA to tc, .slice MA q mc] 40 (0, 0)), row CA n cc 3 1 (ints (undo cells (tr.drop to))), row TA to tc 46 2 (tcells.take (to * 2))]) 1 rfl rfl ?_
  refine St.pick (R := [row MA q mc 3 1 (ints marks.dropLast), blk SB (.cells #[.slice CA n cc, .slice TA to tc, .slice MA q mc] 40 (0, 0)), row CA n cc 3 1 (ints (undo cells (tr.drop to)))]) 3 rfl rfl ?_
  refine St.pick (R := [row TA to tc 46 2 (tcells.take (to * 2)), row MA q mc 3 1 (ints marks.dropLast), blk SB (.cells #[.slice CA n cc, .slice TA to tc, .slice MA q mc] 40 (0, 0))]) 3 rfl rfl ?_
  refine St.pick (R := [row CA n cc 3 1 (ints (undo cells (tr.drop to))), row TA to tc 46 2 (tcells.take (to * 2)), row MA q mc 3 1 (ints marks.dropLast)]) 3 rfl rfl ?_
  exact St.end0 rfl ⟨rfl, rfl, rfl⟩

theorem do0_sp {F : PH} {SB : Nat} {CA TA MA : Option Addr} {n cc t tc m q mc : Nat} {cells : List Int} {tr : List (Int × Int)} {tcells : List Value} {marks : List Int} {a v : Int} (hT : Cat (TE SB) F tcells tr) (hb : t ≤ 100000) (hbm : m ≤ 100000) (hbq : q ≤ 100000) {was : Int} (h0 : 0 ≤ a) (h1 : a < n) (hwas : cells[a.toNat]? = some was)  :
    CallSp Try.prog 16 #[.pointer (some ⟨SB, 0, none⟩), .agg #[.int .i64 0, .int .i64 a, .int .i64 v]] F [blk SB (.cells #[.slice CA n cc, .slice TA t tc, .slice MA m mc] 40 (0, 0)), row CA n cc 3 1 (ints cells), row TA t tc 46 2 tcells, row MA m mc 3 1 (ints marks)] (fun u F' H' => ∃ TA' tc' tcells', u = .bool true ∧ H' = [blk SB (.cells #[.slice CA n cc, .slice TA' (t + 1) tc', .slice MA m mc] 40 (0, 0)), row CA n cc 3 1 (ints (cells.set a.toNat v)), row TA' (t + 1) tc' 46 2 tcells', row MA m mc 3 1 (ints marks)] ∧ Cat (TE SB) F' tcells' (tr ++ [(a, was)])) := by
  refine CallSp.enter (args := [.pointer (some ⟨SB, 0, none⟩), .agg #[.int .i64 0, .int .i64 a, .int .i64 v]]) Try.func16 rfl rfl ?_
  intro w0 m0 hm0
  refine St.seq ?_
  refine St.region ?_
  refine St.box rfl trivial rfl ?_
  intro b1
  refine St.box rfl trivial rfl ?_
  intro b2
  refine St.val (v := (.bool false)) (Yields.assign rfl) trivial rfl rfl ?_
  refine St.nil ?_
  refine St.norm ?_
  refine St.seq ?_
  refine St.seq ?_
  refine St.region ?_
  refine St.freeze_blk (R := [blk b2 (.cells #[.int .i64 0, .int .i64 a, .int .i64 v] 29 (0, 0)), blk SB (.cells #[.slice CA n cc, .slice TA t tc, .slice MA m mc] 40 (0, 0)), row CA n cc 3 1 (ints cells), row TA t tc 46 2 tcells, row MA m mc 3 1 (ints marks)]) 1 rfl rfl ?_
  intro F3 hle4 hsb
  replace hT := Cat.mono hle4 hT
  refine St.freeze_blk (R := [blk SB (.cells #[.slice CA n cc, .slice TA t tc, .slice MA m mc] 40 (0, 0)), row CA n cc 3 1 (ints cells), row TA t tc 46 2 tcells, row MA m mc 3 1 (ints marks)]) 0 rfl rfl ?_
  intro F5 hle6 hxb
  replace hT := Cat.mono hle6 hT
  have hsb := hle6 _ _ hsb
  refine St.val (v := (.pointer (some ⟨b2, 0, none⟩))) (Yields.fieldAddr (v := (.pointer (some ⟨b2, 0, none⟩))) rfl (fun _ => by kernel_rfl)) trivial rfl rfl ?_
  refine St.val (v := (.int .i64 0)) (Yields.load rfl (Loads.Fb hxb tc3 rfl)) trivial rfl rfl ?_
  refine St.val (v := (.bool false)) (Yields.isnt (by decide) (Yields.gt rfl rfl)) trivial rfl rfl ?_
  refine St.val (v := (.bool false)) (Yields.move rfl) trivial rfl rfl ?_
  refine St.unwanted rfl rfl rfl ?_
  refine St.unwanted rfl rfl rfl ?_
  refine St.unwanted rfl rfl rfl ?_
  refine St.unwanted rfl rfl rfl ?_
  refine St.unwanted rfl rfl rfl ?_
  refine St.unwanted rfl rfl rfl ?_
  refine St.val (v := (.bool false)) (Yields.pick_f rfl rfl) trivial rfl rfl ?_
  refine St.nil ?_
  refine St.norm ?_
  refine St.cond_f rfl ?_
  refine St.skip ?_
  refine St.norm ?_
  refine St.seq ?_
  refine St.region ?_
  refine St.val (v := (.func (.func 20) #[] #[.pointer (some ⟨b1, 0, none⟩)])) (Yields.makeFunc (fun _ _ => ev0) (fun _ ha => ev1 ha rfl)) trivial rfl rfl ?_
  refine St.alloc tz1 trivial rfl ?_
  intro b7
  refine St.store (R := [blk SB (.cells #[.slice CA n cc, .slice TA t tc, .slice MA m mc] 40 (0, 0)), row CA n cc 3 1 (ints cells), row TA t tc 46 2 tcells, row MA m mc 3 1 (ints marks)]) rfl rfl 0 rfl rfl tc1 rfl rfl trivial (cs' := #[.func (.func 20) #[] #[.pointer (some ⟨b1, 0, none⟩)]]) rfl ?_
  refine St.nil ?_
  refine St.norm ?_
  refine St.seq ?_
  refine St.region ?_
  refine St.freeze_blk (R := [blk SB (.cells #[.slice CA n cc, .slice TA t tc, .slice MA m mc] 40 (0, 0)), row CA n cc 3 1 (ints cells), row TA t tc 46 2 tcells, row MA m mc 3 1 (ints marks)]) 0 rfl rfl ?_
  intro F8 hle9 hdb
  replace hT := Cat.mono hle9 hT
  have hsb := hle9 _ _ hsb
  have hxb := hle9 _ _ hxb
  refine St.val (v := (.func (.func 21) #[] #[.pointer (some ⟨b1, 0, none⟩), .pointer (some ⟨b2, 0, none⟩)])) (Yields.makeFunc (fun _ _ => ev0) (fun _ ha => ev2 ha rfl rfl)) trivial rfl rfl ?_
  refine St.val (v := (.func (.func 23) #[] #[.pointer (some ⟨b1, 0, none⟩)])) (Yields.makeFunc (fun _ _ => ev0) (fun _ ha => ev1 ha rfl)) trivial rfl rfl ?_
  refine St.val (v := (.pointer (some ⟨SB, 0, none⟩))) (Yields.load rfl (Loads.Fb hsb tc35 rfl)) trivial rfl rfl ?_
  refine St.val (v := (.func (.func 24) #[.pointer (some ⟨SB, 0, none⟩)] #[])) (Yields.makeFunc (fun _ ha => ev1 ha rfl) (fun _ _ => ev0)) trivial rfl rfl ?_
  refine St.val (v := (.func (.func 20) #[] #[.pointer (some ⟨b1, 0, none⟩)])) (Yields.load rfl (Loads.Fb hdb tc1 rfl)) trivial rfl rfl ?_
  refine St.val (v := (.func (.func 25) #[] #[.pointer (some ⟨b1, 0, none⟩), .pointer (some ⟨b7, 0, none⟩)])) (Yields.makeFunc (fun _ _ => ev0) (fun _ ha => ev2 ha rfl rfl)) trivial rfl rfl ?_
  refine St.val (v := (.agg #[.func (.func 21) #[] #[.pointer (some ⟨b1, 0, none⟩), .pointer (some ⟨b2, 0, none⟩)], .func (.func 23) #[] #[.pointer (some ⟨b1, 0, none⟩)], .func (.func 24) #[.pointer (some ⟨SB, 0, none⟩)] #[], .func (.func 20) #[] #[.pointer (some ⟨b1, 0, none⟩)], .func (.func 25) #[] #[.pointer (some ⟨b1, 0, none⟩), .pointer (some ⟨b7, 0, none⟩)]])) (Yields.build (v := (.agg #[.func (.func 21) #[] #[.pointer (some ⟨b1, 0, none⟩), .pointer (some ⟨b2, 0, none⟩)], .func (.func 23) #[] #[.pointer (some ⟨b1, 0, none⟩)], .func (.func 24) #[.pointer (some ⟨SB, 0, none⟩)] #[], .func (.func 20) #[] #[.pointer (some ⟨b1, 0, none⟩)], .func (.func 25) #[] #[.pointer (some ⟨b1, 0, none⟩), .pointer (some ⟨b7, 0, none⟩)]])) (vs := #[(0, .func (.func 21) #[] #[.pointer (some ⟨b1, 0, none⟩), .pointer (some ⟨b2, 0, none⟩)]), (1, .func (.func 23) #[] #[.pointer (some ⟨b1, 0, none⟩)]), (2, .func (.func 24) #[.pointer (some ⟨SB, 0, none⟩)] #[]), (3, .func (.func 20) #[] #[.pointer (some ⟨b1, 0, none⟩)]), (4, .func (.func 25) #[] #[.pointer (some ⟨b1, 0, none⟩), .pointer (some ⟨b7, 0, none⟩)])]) (fun _ ha => evp5 ha rfl rfl rfl rfl rfl) (fun _ => by kernel_rfl)) trivial rfl rfl ?_
  refine St.alloc tz60 trivial rfl ?_
  intro b10
  refine St.storen (R := [blk SB (.cells #[.slice CA n cc, .slice TA t tc, .slice MA m mc] 40 (0, 0)), row CA n cc 3 1 (ints cells), row TA t tc 46 2 tcells, row MA m mc 3 1 (ints marks)]) rfl rfl 0 rfl rfl ta60 rfl rfl rfl trivial (cs' := #[.func (.func 21) #[] #[.pointer (some ⟨b1, 0, none⟩), .pointer (some ⟨b2, 0, none⟩)], .func (.func 23) #[] #[.pointer (some ⟨b1, 0, none⟩)], .func (.func 24) #[.pointer (some ⟨SB, 0, none⟩)] #[], .func (.func 20) #[] #[.pointer (some ⟨b1, 0, none⟩)], .func (.func 25) #[] #[.pointer (some ⟨b1, 0, none⟩), .pointer (some ⟨b7, 0, none⟩)]]) rfl ?_
  refine St.nil ?_
  refine St.norm ?_
  refine St.seq ?_
  refine St.region ?_
  refine St.val (v := (.pointer (some ⟨b2, 0, none⟩))) (Yields.fieldAddr (v := (.pointer (some ⟨b2, 0, none⟩))) rfl (fun _ => by kernel_rfl)) trivial rfl rfl ?_
  refine St.val (v := (.int .i64 0)) (Yields.load rfl (Loads.Fb hxb tc3 rfl)) trivial rfl rfl ?_
  refine St.val (v := (.pointer (some ⟨b10, 0, none⟩))) (Yields.indexArr (p := ⟨b10, 0, none⟩) tr60 rfl rfl (by decide) (by decide) rfl) trivial rfl rfl ?_
  refine St.val (v := (.func (.func 21) #[] #[.pointer (some ⟨b1, 0, none⟩), .pointer (some ⟨b2, 0, none⟩)])) (Yields.load rfl (Loads.H1 0 rfl tc1 rfl)) trivial rfl rfl ?_
  refine St.pick (R := [blk b10 (.cells #[.func (.func 21) #[] #[.pointer (some ⟨b1, 0, none⟩), .pointer (some ⟨b2, 0, none⟩)], .func (.func 23) #[] #[.pointer (some ⟨b1, 0, none⟩)], .func (.func 24) #[.pointer (some ⟨SB, 0, none⟩)] #[], .func (.func 20) #[] #[.pointer (some ⟨b1, 0, none⟩)], .func (.func 25) #[] #[.pointer (some ⟨b1, 0, none⟩), .pointer (some ⟨b7, 0, none⟩)]] 60 (0, 0)), blk SB (.cells #[.slice CA n cc, .slice TA t tc, .slice MA m mc] 40 (0, 0)), row CA n cc 3 1 (ints cells), row MA m mc 3 1 (ints marks)]) 3 rfl rfl ?_
  refine St.pick (R := [row TA t tc 46 2 tcells, blk b10 (.cells #[.func (.func 21) #[] #[.pointer (some ⟨b1, 0, none⟩), .pointer (some ⟨b2, 0, none⟩)], .func (.func 23) #[] #[.pointer (some ⟨b1, 0, none⟩)], .func (.func 24) #[.pointer (some ⟨SB, 0, none⟩)] #[], .func (.func 20) #[] #[.pointer (some ⟨b1, 0, none⟩)], .func (.func 25) #[] #[.pointer (some ⟨b1, 0, none⟩), .pointer (some ⟨b7, 0, none⟩)]] 60 (0, 0)), blk SB (.cells #[.slice CA n cc, .slice TA t tc, .slice MA m mc] 40 (0, 0)), row MA m mc 3 1 (ints marks)]) 3 rfl rfl ?_
  refine St.pick (R := [row CA n cc 3 1 (ints cells), row TA t tc 46 2 tcells, blk b10 (.cells #[.func (.func 21) #[] #[.pointer (some ⟨b1, 0, none⟩), .pointer (some ⟨b2, 0, none⟩)], .func (.func 23) #[] #[.pointer (some ⟨b1, 0, none⟩)], .func (.func 24) #[.pointer (some ⟨SB, 0, none⟩)] #[], .func (.func 20) #[] #[.pointer (some ⟨b1, 0, none⟩)], .func (.func 25) #[] #[.pointer (some ⟨b1, 0, none⟩), .pointer (some ⟨b7, 0, none⟩)]] 60 (0, 0)), row MA m mc 3 1 (ints marks)]) 3 rfl rfl ?_
  refine St.call [blk b10 (.cells #[.func (.func 21) #[] #[.pointer (some ⟨b1, 0, none⟩), .pointer (some ⟨b2, 0, none⟩)], .func (.func 23) #[] #[.pointer (some ⟨b1, 0, none⟩)], .func (.func 24) #[.pointer (some ⟨SB, 0, none⟩)] #[], .func (.func 20) #[] #[.pointer (some ⟨b1, 0, none⟩)], .func (.func 25) #[] #[.pointer (some ⟨b1, 0, none⟩), .pointer (some ⟨b7, 0, none⟩)]] 60 (0, 0)), row MA m mc 3 1 (ints marks)] (chg_sp (x := ⟨0, a, v⟩) h0 h1 hwas hT hb hsb hxb) rfl (fun _ _ => ev0) rfl en21 rfl rfl trivial ?_
  rintro _ F9 _ ⟨TA', tc', tcells', rfl, rfl, hT1⟩ hle11
  replace hT := Cat.mono hle11 hT
  have hsb := hle11 _ _ hsb
  have hxb := hle11 _ _ hxb
  have hdb := hle11 _ _ hdb
  refine St.nil ?_
  refine St.norm ?_
  refine St.seq ?_
  refine St.region ?_
  refine St.val (v := (.bool true)) (Yields.assign rfl) trivial rfl rfl ?_
  refine St.nil ?_
  refine St.norm ?_
  refine St.ret ?_
  refine St.pick (R := [blk SB (.cells #[.slice CA n cc, .slice TA' (t + 1) tc', .slice MA m mc] 40 (0, 0)), row CA n cc 3 1 (ints (cells.set a.toNat v)), row TA' (t + 1) tc' 46 2 tcells', blk b10 (.cells #[.func (.func 21) #[] #[.pointer (some ⟨b1, 0, none⟩), .pointer (some ⟨b2, 0, none⟩)], .func (.func 23) #[] #[.pointer (some ⟨b1, 0, none⟩)], .func (.func 24) #[.pointer (some ⟨SB, 0, none⟩)] #[], .func (.func 20) #[] #[.pointer (some ⟨b1, 0, none⟩)], .func (.func 25) #[] #[.pointer (some ⟨b1, 0, none⟩), .pointer (some ⟨b7, 0, none⟩)]] 60 (0, 0))]) 4 rfl rfl ?_
  refine St.pick (R := [row MA m mc 3 1 (ints marks), blk SB (.cells #[.slice CA n cc, .slice TA' (t + 1) tc', .slice MA m mc] 40 (0, 0)), row CA n cc 3 1 (ints (cells.set a.toNat v)), blk b10 (.cells #[.func (.func 21) #[] #[.pointer (some ⟨b1, 0, none⟩), .pointer (some ⟨b2, 0, none⟩)], .func (.func 23) #[] #[.pointer (some ⟨b1, 0, none⟩)], .func (.func 24) #[.pointer (some ⟨SB, 0, none⟩)] #[], .func (.func 20) #[] #[.pointer (some ⟨b1, 0, none⟩)], .func (.func 25) #[] #[.pointer (some ⟨b1, 0, none⟩), .pointer (some ⟨b7, 0, none⟩)]] 60 (0, 0))]) 3 rfl rfl ?_
  refine St.pick (R := [row TA' (t + 1) tc' 46 2 tcells', row MA m mc 3 1 (ints marks), blk SB (.cells #[.slice CA n cc, .slice TA' (t + 1) tc', .slice MA m mc] 40 (0, 0)), blk b10 (.cells #[.func (.func 21) #[] #[.pointer (some ⟨b1, 0, none⟩), .pointer (some ⟨b2, 0, none⟩)], .func (.func 23) #[] #[.pointer (some ⟨b1, 0, none⟩)], .func (.func 24) #[.pointer (some ⟨SB, 0, none⟩)] #[], .func (.func 20) #[] #[.pointer (some ⟨b1, 0, none⟩)], .func (.func 25) #[] #[.pointer (some ⟨b1, 0, none⟩), .pointer (some ⟨b7, 0, none⟩)]] 60 (0, 0))]) 3 rfl rfl ?_
  refine St.pick (R := [row CA n cc 3 1 (ints (cells.set a.toNat v)), row TA' (t + 1) tc' 46 2 tcells', row MA m mc 3 1 (ints marks), blk b10 (.cells #[.func (.func 21) #[] #[.pointer (some ⟨b1, 0, none⟩), .pointer (some ⟨b2, 0, none⟩)], .func (.func 23) #[] #[.pointer (some ⟨b1, 0, none⟩)], .func (.func 24) #[.pointer (some ⟨SB, 0, none⟩)] #[], .func (.func 20) #[] #[.pointer (some ⟨b1, 0, none⟩)], .func (.func 25) #[] #[.pointer (some ⟨b1, 0, none⟩), .pointer (some ⟨b7, 0, none⟩)]] 60 (0, 0))]) 3 rfl rfl ?_
  refine St.pick (R := [blk SB (.cells #[.slice CA n cc, .slice TA' (t + 1) tc', .slice MA m mc] 40 (0, 0)), row CA n cc 3 1 (ints (cells.set a.toNat v)), row TA' (t + 1) tc' 46 2 tcells', row MA m mc 3 1 (ints marks)]) 4 rfl rfl ?_
  refine St.drop ?_
  exact St.done1 rfl rfl ⟨_, _, _, rfl, rfl, hT1⟩

theorem do1_sp {F : PH} {SB : Nat} {CA TA MA : Option Addr} {n cc t tc m q mc : Nat} {cells : List Int} {tr : List (Int × Int)} {tcells : List Value} {marks : List Int} {a v : Int} (hT : Cat (TE SB) F tcells tr) (hb : t ≤ 100000) (hbm : m ≤ 100000) (hbq : q ≤ 100000)  :
    CallSp Try.prog 16 #[.pointer (some ⟨SB, 0, none⟩), .agg #[.int .i64 1, .int .i64 a, .int .i64 v]] F [blk SB (.cells #[.slice CA n cc, .slice TA t tc, .slice MA m mc] 40 (0, 0)), row CA n cc 3 1 (ints cells), row TA t tc 46 2 tcells, row MA m mc 3 1 (ints marks)] (fun u F' H' => ∃ MA' mc', u = .bool true ∧ H' = [blk SB (.cells #[.slice CA n cc, .slice TA t tc, .slice MA' (m + 1) mc'] 40 (0, 0)), row CA n cc 3 1 (ints cells), row TA t tc 46 2 tcells, row MA' (m + 1) mc' 3 1 (ints (marks ++ [(t : Int)]))] ∧ Cat (TE SB) F' tcells (tr)) := by
  refine CallSp.enter (args := [.pointer (some ⟨SB, 0, none⟩), .agg #[.int .i64 1, .int .i64 a, .int .i64 v]]) Try.func16 rfl rfl ?_
  intro w0 m0 hm0
  refine St.seq ?_
  refine St.region ?_
  refine St.box rfl trivial rfl ?_
  intro b1
  refine St.box rfl trivial rfl ?_
  intro b2
  refine St.val (v := (.bool false)) (Yields.assign rfl) trivial rfl rfl ?_
  refine St.nil ?_
  refine St.norm ?_
  refine St.seq ?_
  refine St.seq ?_
  refine St.region ?_
  refine St.freeze_blk (R := [blk b2 (.cells #[.int .i64 1, .int .i64 a, .int .i64 v] 29 (0, 0)), blk SB (.cells #[.slice CA n cc, .slice TA t tc, .slice MA m mc] 40 (0, 0)), row CA n cc 3 1 (ints cells), row TA t tc 46 2 tcells, row MA m mc 3 1 (ints marks)]) 1 rfl rfl ?_
  intro F3 hle4 hsb
  replace hT := Cat.mono hle4 hT
  refine St.freeze_blk (R := [blk SB (.cells #[.slice CA n cc, .slice TA t tc, .slice MA m mc] 40 (0, 0)), row CA n cc 3 1 (ints cells), row TA t tc 46 2 tcells, row MA m mc 3 1 (ints marks)]) 0 rfl rfl ?_
  intro F5 hle6 hxb
  replace hT := Cat.mono hle6 hT
  have hsb := hle6 _ _ hsb
  refine St.val (v := (.pointer (some ⟨b2, 0, none⟩))) (Yields.fieldAddr (v := (.pointer (some ⟨b2, 0, none⟩))) rfl (fun _ => by kernel_rfl)) trivial rfl rfl ?_
  refine St.val (v := (.int .i64 1)) (Yields.load rfl (Loads.Fb hxb tc3 rfl)) trivial rfl rfl ?_
  refine St.val (v := (.bool false)) (Yields.isnt (by decide) (Yields.gt rfl rfl)) trivial rfl rfl ?_
  refine St.val (v := (.bool false)) (Yields.move rfl) trivial rfl rfl ?_
  refine St.unwanted rfl rfl rfl ?_
  refine St.unwanted rfl rfl rfl ?_
  refine St.unwanted rfl rfl rfl ?_
  refine St.unwanted rfl rfl rfl ?_
  refine St.unwanted rfl rfl rfl ?_
  refine St.unwanted rfl rfl rfl ?_
  refine St.val (v := (.bool false)) (Yields.pick_f rfl rfl) trivial rfl rfl ?_
  refine St.nil ?_
  refine St.norm ?_
  refine St.cond_f rfl ?_
  refine St.skip ?_
  refine St.norm ?_
  refine St.seq ?_
  refine St.region ?_
  refine St.val (v := (.func (.func 20) #[] #[.pointer (some ⟨b1, 0, none⟩)])) (Yields.makeFunc (fun _ _ => ev0) (fun _ ha => ev1 ha rfl)) trivial rfl rfl ?_
  refine St.alloc tz1 trivial rfl ?_
  intro b7
  refine St.store (R := [blk SB (.cells #[.slice CA n cc, .slice TA t tc, .slice MA m mc] 40 (0, 0)), row CA n cc 3 1 (ints cells), row TA t tc 46 2 tcells, row MA m mc 3 1 (ints marks)]) rfl rfl 0 rfl rfl tc1 rfl rfl trivial (cs' := #[.func (.func 20) #[] #[.pointer (some ⟨b1, 0, none⟩)]]) rfl ?_
  refine St.nil ?_
  refine St.norm ?_
  refine St.seq ?_
  refine St.region ?_
  refine St.freeze_blk (R := [blk SB (.cells #[.slice CA n cc, .slice TA t tc, .slice MA m mc] 40 (0, 0)), row CA n cc 3 1 (ints cells), row TA t tc 46 2 tcells, row MA m mc 3 1 (ints marks)]) 0 rfl rfl ?_
  intro F8 hle9 hdb
  replace hT := Cat.mono hle9 hT
  have hsb := hle9 _ _ hsb
  have hxb := hle9 _ _ hxb
  refine St.val (v := (.func (.func 21) #[] #[.pointer (some ⟨b1, 0, none⟩), .pointer (some ⟨b2, 0, none⟩)])) (Yields.makeFunc (fun _ _ => ev0) (fun _ ha => ev2 ha rfl rfl)) trivial rfl rfl ?_
  refine St.val (v := (.func (.func 23) #[] #[.pointer (some ⟨b1, 0, none⟩)])) (Yields.makeFunc (fun _ _ => ev0) (fun _ ha => ev1 ha rfl)) trivial rfl rfl ?_
  refine St.val (v := (.pointer (some ⟨SB, 0, none⟩))) (Yields.load rfl (Loads.Fb hsb tc35 rfl)) trivial rfl rfl ?_
  refine St.val (v := (.func (.func 24) #[.pointer (some ⟨SB, 0, none⟩)] #[])) (Yields.makeFunc (fun _ ha => ev1 ha rfl) (fun _ _ => ev0)) trivial rfl rfl ?_
  refine St.val (v := (.func (.func 20) #[] #[.pointer (some ⟨b1, 0, none⟩)])) (Yields.load rfl (Loads.Fb hdb tc1 rfl)) trivial rfl rfl ?_
  refine St.val (v := (.func (.func 25) #[] #[.pointer (some ⟨b1, 0, none⟩), .pointer (some ⟨b7, 0, none⟩)])) (Yields.makeFunc (fun _ _ => ev0) (fun _ ha => ev2 ha rfl rfl)) trivial rfl rfl ?_
  refine St.val (v := (.agg #[.func (.func 21) #[] #[.pointer (some ⟨b1, 0, none⟩), .pointer (some ⟨b2, 0, none⟩)], .func (.func 23) #[] #[.pointer (some ⟨b1, 0, none⟩)], .func (.func 24) #[.pointer (some ⟨SB, 0, none⟩)] #[], .func (.func 20) #[] #[.pointer (some ⟨b1, 0, none⟩)], .func (.func 25) #[] #[.pointer (some ⟨b1, 0, none⟩), .pointer (some ⟨b7, 0, none⟩)]])) (Yields.build (v := (.agg #[.func (.func 21) #[] #[.pointer (some ⟨b1, 0, none⟩), .pointer (some ⟨b2, 0, none⟩)], .func (.func 23) #[] #[.pointer (some ⟨b1, 0, none⟩)], .func (.func 24) #[.pointer (some ⟨SB, 0, none⟩)] #[], .func (.func 20) #[] #[.pointer (some ⟨b1, 0, none⟩)], .func (.func 25) #[] #[.pointer (some ⟨b1, 0, none⟩), .pointer (some ⟨b7, 0, none⟩)]])) (vs := #[(0, .func (.func 21) #[] #[.pointer (some ⟨b1, 0, none⟩), .pointer (some ⟨b2, 0, none⟩)]), (1, .func (.func 23) #[] #[.pointer (some ⟨b1, 0, none⟩)]), (2, .func (.func 24) #[.pointer (some ⟨SB, 0, none⟩)] #[]), (3, .func (.func 20) #[] #[.pointer (some ⟨b1, 0, none⟩)]), (4, .func (.func 25) #[] #[.pointer (some ⟨b1, 0, none⟩), .pointer (some ⟨b7, 0, none⟩)])]) (fun _ ha => evp5 ha rfl rfl rfl rfl rfl) (fun _ => by kernel_rfl)) trivial rfl rfl ?_
  refine St.alloc tz60 trivial rfl ?_
  intro b10
  refine St.storen (R := [blk SB (.cells #[.slice CA n cc, .slice TA t tc, .slice MA m mc] 40 (0, 0)), row CA n cc 3 1 (ints cells), row TA t tc 46 2 tcells, row MA m mc 3 1 (ints marks)]) rfl rfl 0 rfl rfl ta60 rfl rfl rfl trivial (cs' := #[.func (.func 21) #[] #[.pointer (some ⟨b1, 0, none⟩), .pointer (some ⟨b2, 0, none⟩)], .func (.func 23) #[] #[.pointer (some ⟨b1, 0, none⟩)], .func (.func 24) #[.pointer (some ⟨SB, 0, none⟩)] #[], .func (.func 20) #[] #[.pointer (some ⟨b1, 0, none⟩)], .func (.func 25) #[] #[.pointer (some ⟨b1, 0, none⟩), .pointer (some ⟨b7, 0, none⟩)]]) rfl ?_
  refine St.nil ?_
  refine St.norm ?_
  refine St.seq ?_
  refine St.region ?_
  refine St.val (v := (.pointer (some ⟨b2, 0, none⟩))) (Yields.fieldAddr (v := (.pointer (some ⟨b2, 0, none⟩))) rfl (fun _ => by kernel_rfl)) trivial rfl rfl ?_
  refine St.val (v := (.int .i64 1)) (Yields.load rfl (Loads.Fb hxb tc3 rfl)) trivial rfl rfl ?_
  refine St.val (v := (.pointer (some ⟨b10, 1, none⟩))) (Yields.indexArr (p := ⟨b10, 1, none⟩) tr60 rfl rfl (by decide) (by decide) rfl) trivial rfl rfl ?_
  refine St.val (v := (.func (.func 23) #[] #[.pointer (some ⟨b1, 0, none⟩)])) (Yields.load rfl (Loads.H1 0 rfl tc1 rfl)) trivial rfl rfl ?_
  refine St.pick (R := [blk b10 (.cells #[.func (.func 21) #[] #[.pointer (some ⟨b1, 0, none⟩), .pointer (some ⟨b2, 0, none⟩)], .func (.func 23) #[] #[.pointer (some ⟨b1, 0, none⟩)], .func (.func 24) #[.pointer (some ⟨SB, 0, none⟩)] #[], .func (.func 20) #[] #[.pointer (some ⟨b1, 0, none⟩)], .func (.func 25) #[] #[.pointer (some ⟨b1, 0, none⟩), .pointer (some ⟨b7, 0, none⟩)]] 60 (0, 0)), blk SB (.cells #[.slice CA n cc, .slice TA t tc, .slice MA m mc] 40 (0, 0)), row CA n cc 3 1 (ints cells), row TA t tc 46 2 tcells]) 4 rfl rfl ?_
  refine St.pick (R := [row MA m mc 3 1 (ints marks), blk b10 (.cells #[.func (.func 21) #[] #[.pointer (some ⟨b1, 0, none⟩), .pointer (some ⟨b2, 0, none⟩)], .func (.func 23) #[] #[.pointer (some ⟨b1, 0, none⟩)], .func (.func 24) #[.pointer (some ⟨SB, 0, none⟩)] #[], .func (.func 20) #[] #[.pointer (some ⟨b1, 0, none⟩)], .func (.func 25) #[] #[.pointer (some ⟨b1, 0, none⟩), .pointer (some ⟨b7, 0, none⟩)]] 60 (0, 0)), row CA n cc 3 1 (ints cells), row TA t tc 46 2 tcells]) 2 rfl rfl ?_
  refine St.call [blk b10 (.cells #[.func (.func 21) #[] #[.pointer (some ⟨b1, 0, none⟩), .pointer (some ⟨b2, 0, none⟩)], .func (.func 23) #[] #[.pointer (some ⟨b1, 0, none⟩)], .func (.func 24) #[.pointer (some ⟨SB, 0, none⟩)] #[], .func (.func 20) #[] #[.pointer (some ⟨b1, 0, none⟩)], .func (.func 25) #[] #[.pointer (some ⟨b1, 0, none⟩), .pointer (some ⟨b7, 0, none⟩)]] 60 (0, 0)), row CA n cc 3 1 (ints cells), row TA t tc 46 2 tcells] (mark_sp hbm hsb) rfl (fun _ _ => ev0) rfl en23 rfl rfl trivial ?_
  rintro _ _F _ ⟨MA', mc', rfl, rfl, rfl⟩ hle11
  refine St.nil ?_
  refine St.norm ?_
  refine St.seq ?_
  refine St.region ?_
  refine St.val (v := (.bool true)) (Yields.assign rfl) trivial rfl rfl ?_
  refine St.nil ?_
  refine St.norm ?_
  refine St.ret ?_
  refine St.pick (R := [blk SB (.cells #[.slice CA n cc, .slice TA t tc, .slice MA' (m + 1) mc'] 40 (0, 0)), blk b10 (.cells #[.func (.func 21) #[] #[.pointer (some ⟨b1, 0, none⟩), .pointer (some ⟨b2, 0, none⟩)], .func (.func 23) #[] #[.pointer (some ⟨b1, 0, none⟩)], .func (.func 24) #[.pointer (some ⟨SB, 0, none⟩)] #[], .func (.func 20) #[] #[.pointer (some ⟨b1, 0, none⟩)], .func (.func 25) #[] #[.pointer (some ⟨b1, 0, none⟩), .pointer (some ⟨b7, 0, none⟩)]] 60 (0, 0)), row CA n cc 3 1 (ints cells), row TA t tc 46 2 tcells]) 1 rfl rfl ?_
  refine St.pick (R := [row MA' (m + 1) mc' 3 1 (ints (marks ++ [(t : Int)])), blk SB (.cells #[.slice CA n cc, .slice TA t tc, .slice MA' (m + 1) mc'] 40 (0, 0)), blk b10 (.cells #[.func (.func 21) #[] #[.pointer (some ⟨b1, 0, none⟩), .pointer (some ⟨b2, 0, none⟩)], .func (.func 23) #[] #[.pointer (some ⟨b1, 0, none⟩)], .func (.func 24) #[.pointer (some ⟨SB, 0, none⟩)] #[], .func (.func 20) #[] #[.pointer (some ⟨b1, 0, none⟩)], .func (.func 25) #[] #[.pointer (some ⟨b1, 0, none⟩), .pointer (some ⟨b7, 0, none⟩)]] 60 (0, 0)), row CA n cc 3 1 (ints cells)]) 4 rfl rfl ?_
  refine St.pick (R := [row TA t tc 46 2 tcells, row MA' (m + 1) mc' 3 1 (ints (marks ++ [(t : Int)])), blk SB (.cells #[.slice CA n cc, .slice TA t tc, .slice MA' (m + 1) mc'] 40 (0, 0)), blk b10 (.cells #[.func (.func 21) #[] #[.pointer (some ⟨b1, 0, none⟩), .pointer (some ⟨b2, 0, none⟩)], .func (.func 23) #[] #[.pointer (some ⟨b1, 0, none⟩)], .func (.func 24) #[.pointer (some ⟨SB, 0, none⟩)] #[], .func (.func 20) #[] #[.pointer (some ⟨b1, 0, none⟩)], .func (.func 25) #[] #[.pointer (some ⟨b1, 0, none⟩), .pointer (some ⟨b7, 0, none⟩)]] 60 (0, 0))]) 4 rfl rfl ?_
  refine St.pick (R := [row CA n cc 3 1 (ints cells), row TA t tc 46 2 tcells, row MA' (m + 1) mc' 3 1 (ints (marks ++ [(t : Int)])), blk b10 (.cells #[.func (.func 21) #[] #[.pointer (some ⟨b1, 0, none⟩), .pointer (some ⟨b2, 0, none⟩)], .func (.func 23) #[] #[.pointer (some ⟨b1, 0, none⟩)], .func (.func 24) #[.pointer (some ⟨SB, 0, none⟩)] #[], .func (.func 20) #[] #[.pointer (some ⟨b1, 0, none⟩)], .func (.func 25) #[] #[.pointer (some ⟨b1, 0, none⟩), .pointer (some ⟨b7, 0, none⟩)]] 60 (0, 0))]) 3 rfl rfl ?_
  refine St.pick (R := [blk SB (.cells #[.slice CA n cc, .slice TA t tc, .slice MA' (m + 1) mc'] 40 (0, 0)), row CA n cc 3 1 (ints cells), row TA t tc 46 2 tcells, row MA' (m + 1) mc' 3 1 (ints (marks ++ [(t : Int)]))]) 4 rfl rfl ?_
  refine St.drop ?_
  exact St.done1 rfl rfl ⟨_, _, rfl, rfl, hT⟩

theorem do2_sp {F : PH} {SB : Nat} {CA TA MA : Option Addr} {n cc t tc m q mc : Nat} {cells : List Int} {tr : List (Int × Int)} {tcells : List Value} {marks : List Int} {a v : Int} (hT : Cat (TE SB) F tcells tr) (hb : t ≤ 100000) (hbm : m ≤ 100000) (hbq : q ≤ 100000) {to : Nat} (hn : cells.length = n) (ht : tr.length = t) (hm : marks[q]? = some (to : Int)) (hml : marks.length = q + 1) (hto : to ≤ t) (hix : ∀ e ∈ tr, 0 ≤ e.1 ∧ e.1 < n)  :
    CallSp Try.prog 16 #[.pointer (some ⟨SB, 0, none⟩), .agg #[.int .i64 2, .int .i64 a, .int .i64 v]] F [blk SB (.cells #[.slice CA n cc, .slice TA t tc, .slice MA (q + 1) mc] 40 (0, 0)), row CA n cc 3 1 (ints cells), row TA t tc 46 2 tcells, row MA (q + 1) mc 3 1 (ints marks)] (fun u F' H' => u = .bool true ∧ H' = [blk SB (.cells #[.slice CA n cc, .slice TA to tc, .slice MA (q + 1) mc] 40 (0, 0)), row CA n cc 3 1 (ints (undo cells (tr.drop to))), row TA to tc 46 2 (tcells.take (to * 2)), row MA (q + 1) mc 3 1 (ints marks)] ∧ Cat (TE SB) F' (tcells.take (to * 2)) (tr.take to)) := by
  refine CallSp.enter (args := [.pointer (some ⟨SB, 0, none⟩), .agg #[.int .i64 2, .int .i64 a, .int .i64 v]]) Try.func16 rfl rfl ?_
  intro w0 m0 hm0
  refine St.seq ?_
  refine St.region ?_
  refine St.box rfl trivial rfl ?_
  intro b1
  refine St.box rfl trivial rfl ?_
  intro b2
  refine St.val (v := (.bool false)) (Yields.assign rfl) trivial rfl rfl ?_
  refine St.nil ?_
  refine St.norm ?_
  refine St.seq ?_
  refine St.seq ?_
  refine St.region ?_
  refine St.freeze_blk (R := [blk b2 (.cells #[.int .i64 2, .int .i64 a, .int .i64 v] 29 (0, 0)), blk SB (.cells #[.slice CA n cc, .slice TA t tc, .slice MA (q + 1) mc] 40 (0, 0)), row CA n cc 3 1 (ints cells), row TA t tc 46 2 tcells, row MA (q + 1) mc 3 1 (ints marks)]) 1 rfl rfl ?_
  intro F3 hle4 hsb
  replace hT := Cat.mono hle4 hT
  refine St.freeze_blk (R := [blk SB (.cells #[.slice CA n cc, .slice TA t tc, .slice MA (q + 1) mc] 40 (0, 0)), row CA n cc 3 1 (ints cells), row TA t tc 46 2 tcells, row MA (q + 1) mc 3 1 (ints marks)]) 0 rfl rfl ?_
  intro F5 hle6 hxb
  replace hT := Cat.mono hle6 hT
  have hsb := hle6 _ _ hsb
  refine St.val (v := (.pointer (some ⟨b2, 0, none⟩))) (Yields.fieldAddr (v := (.pointer (some ⟨b2, 0, none⟩))) rfl (fun _ => by kernel_rfl)) trivial rfl rfl ?_
  refine St.val (v := (.int .i64 2)) (Yields.load rfl (Loads.Fb hxb tc3 rfl)) trivial rfl rfl ?_
  refine St.val (v := (.bool true)) (Yields.is (by decide) (Yields.gt rfl rfl)) trivial rfl rfl ?_
  refine St.val (v := (.bool true)) (Yields.move rfl) trivial rfl rfl ?_
  refine St.val (v := (.pointer (some ⟨SB, 0, none⟩))) (Yields.load rfl (Loads.Fb hsb tc35 rfl)) rfl rfl rfl ?_
  refine St.val (v := (.pointer (some ⟨SB, 0, none⟩))) (Yields.nilCheck rfl) rfl rfl rfl ?_
  refine St.val (v := (.pointer (some ⟨SB, 2, none⟩))) (Yields.fieldAddr (v := (.pointer (some ⟨SB, 2, none⟩))) rfl (fun _ => by kernel_rfl)) rfl rfl rfl ?_
  refine St.val (v := (.slice MA (q + 1) mc)) (Yields.load rfl (Loads.H1 0 rfl tc23 rfl)) rfl rfl rfl ?_
  refine St.val (v := (.int .i64 ((q + 1) : Int))) (Yields.lenSlice tu23 rfl) rfl rfl rfl ?_
  refine St.val (v := (.bool false)) (Yields.isnt (by omega) (Yields.eq rfl rfl)) rfl rfl rfl ?_
  refine St.val (v := (.bool false)) (Yields.pick_t rfl rfl) trivial rfl rfl ?_
  refine St.nil ?_
  refine St.norm ?_
  refine St.cond_f rfl ?_
  refine St.skip ?_
  refine St.norm ?_
  refine St.seq ?_
  refine St.region ?_
  refine St.val (v := (.func (.func 20) #[] #[.pointer (some ⟨b1, 0, none⟩)])) (Yields.makeFunc (fun _ _ => ev0) (fun _ ha => ev1 ha rfl)) trivial rfl rfl ?_
  refine St.alloc tz1 trivial rfl ?_
  intro b7
  refine St.store (R := [blk SB (.cells #[.slice CA n cc, .slice TA t tc, .slice MA (q + 1) mc] 40 (0, 0)), row CA n cc 3 1 (ints cells), row TA t tc 46 2 tcells, row MA (q + 1) mc 3 1 (ints marks)]) rfl rfl 0 rfl rfl tc1 rfl rfl trivial (cs' := #[.func (.func 20) #[] #[.pointer (some ⟨b1, 0, none⟩)]]) rfl ?_
  refine St.nil ?_
  refine St.norm ?_
  refine St.seq ?_
  refine St.region ?_
  refine St.freeze_blk (R := [blk SB (.cells #[.slice CA n cc, .slice TA t tc, .slice MA (q + 1) mc] 40 (0, 0)), row CA n cc 3 1 (ints cells), row TA t tc 46 2 tcells, row MA (q + 1) mc 3 1 (ints marks)]) 0 rfl rfl ?_
  intro F8 hle9 hdb
  replace hT := Cat.mono hle9 hT
  have hsb := hle9 _ _ hsb
  have hxb := hle9 _ _ hxb
  refine St.val (v := (.func (.func 21) #[] #[.pointer (some ⟨b1, 0, none⟩), .pointer (some ⟨b2, 0, none⟩)])) (Yields.makeFunc (fun _ _ => ev0) (fun _ ha => ev2 ha rfl rfl)) trivial rfl rfl ?_
  refine St.val (v := (.func (.func 23) #[] #[.pointer (some ⟨b1, 0, none⟩)])) (Yields.makeFunc (fun _ _ => ev0) (fun _ ha => ev1 ha rfl)) trivial rfl rfl ?_
  refine St.val (v := (.pointer (some ⟨SB, 0, none⟩))) (Yields.load rfl (Loads.Fb hsb tc35 rfl)) trivial rfl rfl ?_
  refine St.val (v := (.func (.func 24) #[.pointer (some ⟨SB, 0, none⟩)] #[])) (Yields.makeFunc (fun _ ha => ev1 ha rfl) (fun _ _ => ev0)) trivial rfl rfl ?_
  refine St.val (v := (.func (.func 20) #[] #[.pointer (some ⟨b1, 0, none⟩)])) (Yields.load rfl (Loads.Fb hdb tc1 rfl)) trivial rfl rfl ?_
  refine St.val (v := (.func (.func 25) #[] #[.pointer (some ⟨b1, 0, none⟩), .pointer (some ⟨b7, 0, none⟩)])) (Yields.makeFunc (fun _ _ => ev0) (fun _ ha => ev2 ha rfl rfl)) trivial rfl rfl ?_
  refine St.val (v := (.agg #[.func (.func 21) #[] #[.pointer (some ⟨b1, 0, none⟩), .pointer (some ⟨b2, 0, none⟩)], .func (.func 23) #[] #[.pointer (some ⟨b1, 0, none⟩)], .func (.func 24) #[.pointer (some ⟨SB, 0, none⟩)] #[], .func (.func 20) #[] #[.pointer (some ⟨b1, 0, none⟩)], .func (.func 25) #[] #[.pointer (some ⟨b1, 0, none⟩), .pointer (some ⟨b7, 0, none⟩)]])) (Yields.build (v := (.agg #[.func (.func 21) #[] #[.pointer (some ⟨b1, 0, none⟩), .pointer (some ⟨b2, 0, none⟩)], .func (.func 23) #[] #[.pointer (some ⟨b1, 0, none⟩)], .func (.func 24) #[.pointer (some ⟨SB, 0, none⟩)] #[], .func (.func 20) #[] #[.pointer (some ⟨b1, 0, none⟩)], .func (.func 25) #[] #[.pointer (some ⟨b1, 0, none⟩), .pointer (some ⟨b7, 0, none⟩)]])) (vs := #[(0, .func (.func 21) #[] #[.pointer (some ⟨b1, 0, none⟩), .pointer (some ⟨b2, 0, none⟩)]), (1, .func (.func 23) #[] #[.pointer (some ⟨b1, 0, none⟩)]), (2, .func (.func 24) #[.pointer (some ⟨SB, 0, none⟩)] #[]), (3, .func (.func 20) #[] #[.pointer (some ⟨b1, 0, none⟩)]), (4, .func (.func 25) #[] #[.pointer (some ⟨b1, 0, none⟩), .pointer (some ⟨b7, 0, none⟩)])]) (fun _ ha => evp5 ha rfl rfl rfl rfl rfl) (fun _ => by kernel_rfl)) trivial rfl rfl ?_
  refine St.alloc tz60 trivial rfl ?_
  intro b10
  refine St.storen (R := [blk SB (.cells #[.slice CA n cc, .slice TA t tc, .slice MA (q + 1) mc] 40 (0, 0)), row CA n cc 3 1 (ints cells), row TA t tc 46 2 tcells, row MA (q + 1) mc 3 1 (ints marks)]) rfl rfl 0 rfl rfl ta60 rfl rfl rfl trivial (cs' := #[.func (.func 21) #[] #[.pointer (some ⟨b1, 0, none⟩), .pointer (some ⟨b2, 0, none⟩)], .func (.func 23) #[] #[.pointer (some ⟨b1, 0, none⟩)], .func (.func 24) #[.pointer (some ⟨SB, 0, none⟩)] #[], .func (.func 20) #[] #[.pointer (some ⟨b1, 0, none⟩)], .func (.func 25) #[] #[.pointer (some ⟨b1, 0, none⟩), .pointer (some ⟨b7, 0, none⟩)]]) rfl ?_
  refine St.nil ?_
  refine St.norm ?_
  refine St.seq ?_
  refine St.region ?_
  refine St.val (v := (.pointer (some ⟨b2, 0, none⟩))) (Yields.fieldAddr (v := (.pointer (some ⟨b2, 0, none⟩))) rfl (fun _ => by kernel_rfl)) trivial rfl rfl ?_
  refine St.val (v := (.int .i64 2)) (Yields.load rfl (Loads.Fb hxb tc3 rfl)) trivial rfl rfl ?_
  refine St.val (v := (.pointer (some ⟨b10, 2, none⟩))) (Yields.indexArr (p := ⟨b10, 2, none⟩) tr60 rfl rfl (by decide) (by decide) rfl) trivial rfl rfl ?_
  refine St.val (v := (.func (.func 24) #[.pointer (some ⟨SB, 0, none⟩)] #[])) (Yields.load rfl (Loads.H1 0 rfl tc1 rfl)) trivial rfl rfl ?_
  refine St.pick (R := [blk b10 (.cells #[.func (.func 21) #[] #[.pointer (some ⟨b1, 0, none⟩), .pointer (some ⟨b2, 0, none⟩)], .func (.func 23) #[] #[.pointer (some ⟨b1, 0, none⟩)], .func (.func 24) #[.pointer (some ⟨SB, 0, none⟩)] #[], .func (.func 20) #[] #[.pointer (some ⟨b1, 0, none⟩)], .func (.func 25) #[] #[.pointer (some ⟨b1, 0, none⟩), .pointer (some ⟨b7, 0, none⟩)]] 60 (0, 0)), blk SB (.cells #[.slice CA n cc, .slice TA t tc, .slice MA (q + 1) mc] 40 (0, 0)), row CA n cc 3 1 (ints cells), row TA t tc 46 2 tcells]) 4 rfl rfl ?_
  refine St.pick (R := [row MA (q + 1) mc 3 1 (ints marks), blk b10 (.cells #[.func (.func 21) #[] #[.pointer (some ⟨b1, 0, none⟩), .pointer (some ⟨b2, 0, none⟩)], .func (.func 23) #[] #[.pointer (some ⟨b1, 0, none⟩)], .func (.func 24) #[.pointer (some ⟨SB, 0, none⟩)] #[], .func (.func 20) #[] #[.pointer (some ⟨b1, 0, none⟩)], .func (.func 25) #[] #[.pointer (some ⟨b1, 0, none⟩), .pointer (some ⟨b7, 0, none⟩)]] 60 (0, 0)), blk SB (.cells #[.slice CA n cc, .slice TA t tc, .slice MA (q + 1) mc] 40 (0, 0)), row CA n cc 3 1 (ints cells)]) 4 rfl rfl ?_
  refine St.pick (R := [row TA t tc 46 2 tcells, row MA (q + 1) mc 3 1 (ints marks), blk b10 (.cells #[.func (.func 21) #[] #[.pointer (some ⟨b1, 0, none⟩), .pointer (some ⟨b2, 0, none⟩)], .func (.func 23) #[] #[.pointer (some ⟨b1, 0, none⟩)], .func (.func 24) #[.pointer (some ⟨SB, 0, none⟩)] #[], .func (.func 20) #[] #[.pointer (some ⟨b1, 0, none⟩)], .func (.func 25) #[] #[.pointer (some ⟨b1, 0, none⟩), .pointer (some ⟨b7, 0, none⟩)]] 60 (0, 0)), blk SB (.cells #[.slice CA n cc, .slice TA t tc, .slice MA (q + 1) mc] 40 (0, 0))]) 4 rfl rfl ?_
  refine St.pick (R := [row CA n cc 3 1 (ints cells), row TA t tc 46 2 tcells, row MA (q + 1) mc 3 1 (ints marks), blk b10 (.cells #[.func (.func 21) #[] #[.pointer (some ⟨b1, 0, none⟩), .pointer (some ⟨b2, 0, none⟩)], .func (.func 23) #[] #[.pointer (some ⟨b1, 0, none⟩)], .func (.func 24) #[.pointer (some ⟨SB, 0, none⟩)] #[], .func (.func 20) #[] #[.pointer (some ⟨b1, 0, none⟩)], .func (.func 25) #[] #[.pointer (some ⟨b1, 0, none⟩), .pointer (some ⟨b7, 0, none⟩)]] 60 (0, 0))]) 4 rfl rfl ?_
  refine St.call [blk b10 (.cells #[.func (.func 21) #[] #[.pointer (some ⟨b1, 0, none⟩), .pointer (some ⟨b2, 0, none⟩)], .func (.func 23) #[] #[.pointer (some ⟨b1, 0, none⟩)], .func (.func 24) #[.pointer (some ⟨SB, 0, none⟩)] #[], .func (.func 20) #[] #[.pointer (some ⟨b1, 0, none⟩)], .func (.func 25) #[] #[.pointer (some ⟨b1, 0, none⟩), .pointer (some ⟨b7, 0, none⟩)]] 60 (0, 0))] (back_sp hn ht hm (by omega) hto hix hT hb) rfl (fun _ _ => ev0) rfl en24 rfl rfl trivial ?_
  rintro _ _F _ ⟨rfl, rfl, rfl⟩ hle11
  refine St.nil ?_
  refine St.norm ?_
  refine St.seq ?_
  refine St.region ?_
  refine St.val (v := (.bool true)) (Yields.assign rfl) trivial rfl rfl ?_
  refine St.nil ?_
  refine St.norm ?_
  refine St.ret ?_
  refine St.pick (R := [blk SB (.cells #[.slice CA n cc, .slice TA to tc, .slice MA (q + 1) mc] 40 (0, 0)), row CA n cc 3 1 (ints (undo cells (tr.drop to))), row TA to tc 46 2 (tcells.take (to * 2)), blk b10 (.cells #[.func (.func 21) #[] #[.pointer (some ⟨b1, 0, none⟩), .pointer (some ⟨b2, 0, none⟩)], .func (.func 23) #[] #[.pointer (some ⟨b1, 0, none⟩)], .func (.func 24) #[.pointer (some ⟨SB, 0, none⟩)] #[], .func (.func 20) #[] #[.pointer (some ⟨b1, 0, none⟩)], .func (.func 25) #[] #[.pointer (some ⟨b1, 0, none⟩), .pointer (some ⟨b7, 0, none⟩)]] 60 (0, 0))]) 3 rfl rfl ?_
  refine St.pick (R := [row MA (q + 1) mc 3 1 (ints marks), blk SB (.cells #[.slice CA n cc, .slice TA to tc, .slice MA (q + 1) mc] 40 (0, 0)), row CA n cc 3 1 (ints (undo cells (tr.drop to))), blk b10 (.cells #[.func (.func 21) #[] #[.pointer (some ⟨b1, 0, none⟩), .pointer (some ⟨b2, 0, none⟩)], .func (.func 23) #[] #[.pointer (some ⟨b1, 0, none⟩)], .func (.func 24) #[.pointer (some ⟨SB, 0, none⟩)] #[], .func (.func 20) #[] #[.pointer (some ⟨b1, 0, none⟩)], .func (.func 25) #[] #[.pointer (some ⟨b1, 0, none⟩), .pointer (some ⟨b7, 0, none⟩)]] 60 (0, 0))]) 3 rfl rfl ?_
  refine St.pick (R := [row TA to tc 46 2 (tcells.take (to * 2)), row MA (q + 1) mc 3 1 (ints marks), blk SB (.cells #[.slice CA n cc, .slice TA to tc, .slice MA (q + 1) mc] 40 (0, 0)), blk b10 (.cells #[.func (.func 21) #[] #[.pointer (some ⟨b1, 0, none⟩), .pointer (some ⟨b2, 0, none⟩)], .func (.func 23) #[] #[.pointer (some ⟨b1, 0, none⟩)], .func (.func 24) #[.pointer (some ⟨SB, 0, none⟩)] #[], .func (.func 20) #[] #[.pointer (some ⟨b1, 0, none⟩)], .func (.func 25) #[] #[.pointer (some ⟨b1, 0, none⟩), .pointer (some ⟨b7, 0, none⟩)]] 60 (0, 0))]) 3 rfl rfl ?_
  refine St.pick (R := [row CA n cc 3 1 (ints (undo cells (tr.drop to))), row TA to tc 46 2 (tcells.take (to * 2)), row MA (q + 1) mc 3 1 (ints marks), blk b10 (.cells #[.func (.func 21) #[] #[.pointer (some ⟨b1, 0, none⟩), .pointer (some ⟨b2, 0, none⟩)], .func (.func 23) #[] #[.pointer (some ⟨b1, 0, none⟩)], .func (.func 24) #[.pointer (some ⟨SB, 0, none⟩)] #[], .func (.func 20) #[] #[.pointer (some ⟨b1, 0, none⟩)], .func (.func 25) #[] #[.pointer (some ⟨b1, 0, none⟩), .pointer (some ⟨b7, 0, none⟩)]] 60 (0, 0))]) 3 rfl rfl ?_
  refine St.pick (R := [blk SB (.cells #[.slice CA n cc, .slice TA to tc, .slice MA (q + 1) mc] 40 (0, 0)), row CA n cc 3 1 (ints (undo cells (tr.drop to))), row TA to tc 46 2 (tcells.take (to * 2)), row MA (q + 1) mc 3 1 (ints marks)]) 4 rfl rfl ?_
  refine St.drop ?_
  exact St.done1 rfl rfl ⟨rfl, rfl, Cat.take (K := TE SB) to hT⟩

theorem do3_sp {F : PH} {SB : Nat} {CA TA MA : Option Addr} {n cc t tc m q mc : Nat} {cells : List Int} {tr : List (Int × Int)} {tcells : List Value} {marks : List Int} {a v : Int} (hT : Cat (TE SB) F tcells tr) (hb : t ≤ 100000) (hbm : m ≤ 100000) (hbq : q ≤ 100000) {to : Nat} (hn : cells.length = n) (ht : tr.length = t) (hm : marks[q]? = some (to : Int)) (hml : marks.length = q + 1) (hto : to ≤ t) (hix : ∀ e ∈ tr, 0 ≤ e.1 ∧ e.1 < n)  :
    CallSp Try.prog 16 #[.pointer (some ⟨SB, 0, none⟩), .agg #[.int .i64 3, .int .i64 a, .int .i64 v]] F [blk SB (.cells #[.slice CA n cc, .slice TA t tc, .slice MA (q + 1) mc] 40 (0, 0)), row CA n cc 3 1 (ints cells), row TA t tc 46 2 tcells, row MA (q + 1) mc 3 1 (ints marks)] (fun u F' H' => u = .bool true ∧ H' = [blk SB (.cells #[.slice CA n cc, .slice TA t tc, .slice MA q mc] 40 (0, 0)), row CA n cc 3 1 (ints cells), row TA t tc 46 2 tcells, row MA q mc 3 1 (ints marks.dropLast)] ∧ Cat (TE SB) F' tcells (tr)) := by
  refine CallSp.enter (args := [.pointer (some ⟨SB, 0, none⟩), .agg #[.int .i64 3, .int .i64 a, .int .i64 v]]) Try.func16 rfl rfl ?_
  intro w0 m0 hm0
  refine St.seq ?_
  refine St.region ?_
  refine St.box rfl trivial rfl ?_
  intro b1
  refine St.box rfl trivial rfl ?_
  intro b2
  refine St.val (v := (.bool false)) (Yields.assign rfl) trivial rfl rfl ?_
  refine St.nil ?_
  refine St.norm ?_
  refine St.seq ?_
  refine St.seq ?_
  refine St.region ?_
  refine St.freeze_blk (R := [blk b2 (.cells #[.int .i64 3, .int .i64 a, .int .i64 v] 29 (0, 0)), blk SB (.cells #[.slice CA n cc, .slice TA t tc, .slice MA (q + 1) mc] 40 (0, 0)), row CA n cc 3 1 (ints cells), row TA t tc 46 2 tcells, row MA (q + 1) mc 3 1 (ints marks)]) 1 rfl rfl ?_
  intro F3 hle4 hsb
  replace hT := Cat.mono hle4 hT
  refine St.freeze_blk (R := [blk SB (.cells #[.slice CA n cc, .slice TA t tc, .slice MA (q + 1) mc] 40 (0, 0)), row CA n cc 3 1 (ints cells), row TA t tc 46 2 tcells, row MA (q + 1) mc 3 1 (ints marks)]) 0 rfl rfl ?_
  intro F5 hle6 hxb
  replace hT := Cat.mono hle6 hT
  have hsb := hle6 _ _ hsb
  refine St.val (v := (.pointer (some ⟨b2, 0, none⟩))) (Yields.fieldAddr (v := (.pointer (some ⟨b2, 0, none⟩))) rfl (fun _ => by kernel_rfl)) trivial rfl rfl ?_
  refine St.val (v := (.int .i64 3)) (Yields.load rfl (Loads.Fb hxb tc3 rfl)) trivial rfl rfl ?_
  refine St.val (v := (.bool true)) (Yields.is (by decide) (Yields.gt rfl rfl)) trivial rfl rfl ?_
  refine St.val (v := (.bool true)) (Yields.move rfl) trivial rfl rfl ?_
  refine St.val (v := (.pointer (some ⟨SB, 0, none⟩))) (Yields.load rfl (Loads.Fb hsb tc35 rfl)) rfl rfl rfl ?_
  refine St.val (v := (.pointer (some ⟨SB, 0, none⟩))) (Yields.nilCheck rfl) rfl rfl rfl ?_
  refine St.val (v := (.pointer (some ⟨SB, 2, none⟩))) (Yields.fieldAddr (v := (.pointer (some ⟨SB, 2, none⟩))) rfl (fun _ => by kernel_rfl)) rfl rfl rfl ?_
  refine St.val (v := (.slice MA (q + 1) mc)) (Yields.load rfl (Loads.H1 0 rfl tc23 rfl)) rfl rfl rfl ?_
  refine St.val (v := (.int .i64 ((q + 1) : Int))) (Yields.lenSlice tu23 rfl) rfl rfl rfl ?_
  refine St.val (v := (.bool false)) (Yields.isnt (by omega) (Yields.eq rfl rfl)) rfl rfl rfl ?_
  refine St.val (v := (.bool false)) (Yields.pick_t rfl rfl) trivial rfl rfl ?_
  refine St.nil ?_
  refine St.norm ?_
  refine St.cond_f rfl ?_
  refine St.skip ?_
  refine St.norm ?_
  refine St.seq ?_
  refine St.region ?_
  refine St.val (v := (.func (.func 20) #[] #[.pointer (some ⟨b1, 0, none⟩)])) (Yields.makeFunc (fun _ _ => ev0) (fun _ ha => ev1 ha rfl)) trivial rfl rfl ?_
  refine St.alloc tz1 trivial rfl ?_
  intro b7
  refine St.store (R := [blk SB (.cells #[.slice CA n cc, .slice TA t tc, .slice MA (q + 1) mc] 40 (0, 0)), row CA n cc 3 1 (ints cells), row TA t tc 46 2 tcells, row MA (q + 1) mc 3 1 (ints marks)]) rfl rfl 0 rfl rfl tc1 rfl rfl trivial (cs' := #[.func (.func 20) #[] #[.pointer (some ⟨b1, 0, none⟩)]]) rfl ?_
  refine St.nil ?_
  refine St.norm ?_
  refine St.seq ?_
  refine St.region ?_
  refine St.freeze_blk (R := [blk SB (.cells #[.slice CA n cc, .slice TA t tc, .slice MA (q + 1) mc] 40 (0, 0)), row CA n cc 3 1 (ints cells), row TA t tc 46 2 tcells, row MA (q + 1) mc 3 1 (ints marks)]) 0 rfl rfl ?_
  intro F8 hle9 hdb
  replace hT := Cat.mono hle9 hT
  have hsb := hle9 _ _ hsb
  have hxb := hle9 _ _ hxb
  refine St.val (v := (.func (.func 21) #[] #[.pointer (some ⟨b1, 0, none⟩), .pointer (some ⟨b2, 0, none⟩)])) (Yields.makeFunc (fun _ _ => ev0) (fun _ ha => ev2 ha rfl rfl)) trivial rfl rfl ?_
  refine St.val (v := (.func (.func 23) #[] #[.pointer (some ⟨b1, 0, none⟩)])) (Yields.makeFunc (fun _ _ => ev0) (fun _ ha => ev1 ha rfl)) trivial rfl rfl ?_
  refine St.val (v := (.pointer (some ⟨SB, 0, none⟩))) (Yields.load rfl (Loads.Fb hsb tc35 rfl)) trivial rfl rfl ?_
  refine St.val (v := (.func (.func 24) #[.pointer (some ⟨SB, 0, none⟩)] #[])) (Yields.makeFunc (fun _ ha => ev1 ha rfl) (fun _ _ => ev0)) trivial rfl rfl ?_
  refine St.val (v := (.func (.func 20) #[] #[.pointer (some ⟨b1, 0, none⟩)])) (Yields.load rfl (Loads.Fb hdb tc1 rfl)) trivial rfl rfl ?_
  refine St.val (v := (.func (.func 25) #[] #[.pointer (some ⟨b1, 0, none⟩), .pointer (some ⟨b7, 0, none⟩)])) (Yields.makeFunc (fun _ _ => ev0) (fun _ ha => ev2 ha rfl rfl)) trivial rfl rfl ?_
  refine St.val (v := (.agg #[.func (.func 21) #[] #[.pointer (some ⟨b1, 0, none⟩), .pointer (some ⟨b2, 0, none⟩)], .func (.func 23) #[] #[.pointer (some ⟨b1, 0, none⟩)], .func (.func 24) #[.pointer (some ⟨SB, 0, none⟩)] #[], .func (.func 20) #[] #[.pointer (some ⟨b1, 0, none⟩)], .func (.func 25) #[] #[.pointer (some ⟨b1, 0, none⟩), .pointer (some ⟨b7, 0, none⟩)]])) (Yields.build (v := (.agg #[.func (.func 21) #[] #[.pointer (some ⟨b1, 0, none⟩), .pointer (some ⟨b2, 0, none⟩)], .func (.func 23) #[] #[.pointer (some ⟨b1, 0, none⟩)], .func (.func 24) #[.pointer (some ⟨SB, 0, none⟩)] #[], .func (.func 20) #[] #[.pointer (some ⟨b1, 0, none⟩)], .func (.func 25) #[] #[.pointer (some ⟨b1, 0, none⟩), .pointer (some ⟨b7, 0, none⟩)]])) (vs := #[(0, .func (.func 21) #[] #[.pointer (some ⟨b1, 0, none⟩), .pointer (some ⟨b2, 0, none⟩)]), (1, .func (.func 23) #[] #[.pointer (some ⟨b1, 0, none⟩)]), (2, .func (.func 24) #[.pointer (some ⟨SB, 0, none⟩)] #[]), (3, .func (.func 20) #[] #[.pointer (some ⟨b1, 0, none⟩)]), (4, .func (.func 25) #[] #[.pointer (some ⟨b1, 0, none⟩), .pointer (some ⟨b7, 0, none⟩)])]) (fun _ ha => evp5 ha rfl rfl rfl rfl rfl) (fun _ => by kernel_rfl)) trivial rfl rfl ?_
  refine St.alloc tz60 trivial rfl ?_
  intro b10
  refine St.storen (R := [blk SB (.cells #[.slice CA n cc, .slice TA t tc, .slice MA (q + 1) mc] 40 (0, 0)), row CA n cc 3 1 (ints cells), row TA t tc 46 2 tcells, row MA (q + 1) mc 3 1 (ints marks)]) rfl rfl 0 rfl rfl ta60 rfl rfl rfl trivial (cs' := #[.func (.func 21) #[] #[.pointer (some ⟨b1, 0, none⟩), .pointer (some ⟨b2, 0, none⟩)], .func (.func 23) #[] #[.pointer (some ⟨b1, 0, none⟩)], .func (.func 24) #[.pointer (some ⟨SB, 0, none⟩)] #[], .func (.func 20) #[] #[.pointer (some ⟨b1, 0, none⟩)], .func (.func 25) #[] #[.pointer (some ⟨b1, 0, none⟩), .pointer (some ⟨b7, 0, none⟩)]]) rfl ?_
  refine St.nil ?_
  refine St.norm ?_
  refine St.seq ?_
  refine St.region ?_
  refine St.val (v := (.pointer (some ⟨b2, 0, none⟩))) (Yields.fieldAddr (v := (.pointer (some ⟨b2, 0, none⟩))) rfl (fun _ => by kernel_rfl)) trivial rfl rfl ?_
  refine St.val (v := (.int .i64 3)) (Yields.load rfl (Loads.Fb hxb tc3 rfl)) trivial rfl rfl ?_
  refine St.val (v := (.pointer (some ⟨b10, 3, none⟩))) (Yields.indexArr (p := ⟨b10, 3, none⟩) tr60 rfl rfl (by decide) (by decide) rfl) trivial rfl rfl ?_
  refine St.val (v := (.func (.func 20) #[] #[.pointer (some ⟨b1, 0, none⟩)])) (Yields.load rfl (Loads.H1 0 rfl tc1 rfl)) trivial rfl rfl ?_
  refine St.pick (R := [blk b10 (.cells #[.func (.func 21) #[] #[.pointer (some ⟨b1, 0, none⟩), .pointer (some ⟨b2, 0, none⟩)], .func (.func 23) #[] #[.pointer (some ⟨b1, 0, none⟩)], .func (.func 24) #[.pointer (some ⟨SB, 0, none⟩)] #[], .func (.func 20) #[] #[.pointer (some ⟨b1, 0, none⟩)], .func (.func 25) #[] #[.pointer (some ⟨b1, 0, none⟩), .pointer (some ⟨b7, 0, none⟩)]] 60 (0, 0)), blk SB (.cells #[.slice CA n cc, .slice TA t tc, .slice MA (q + 1) mc] 40 (0, 0)), row CA n cc 3 1 (ints cells), row TA t tc 46 2 tcells]) 4 rfl rfl ?_
  refine St.pick (R := [row MA (q + 1) mc 3 1 (ints marks), blk b10 (.cells #[.func (.func 21) #[] #[.pointer (some ⟨b1, 0, none⟩), .pointer (some ⟨b2, 0, none⟩)], .func (.func 23) #[] #[.pointer (some ⟨b1, 0, none⟩)], .func (.func 24) #[.pointer (some ⟨SB, 0, none⟩)] #[], .func (.func 20) #[] #[.pointer (some ⟨b1, 0, none⟩)], .func (.func 25) #[] #[.pointer (some ⟨b1, 0, none⟩), .pointer (some ⟨b7, 0, none⟩)]] 60 (0, 0)), row CA n cc 3 1 (ints cells), row TA t tc 46 2 tcells]) 2 rfl rfl ?_
  refine St.call [blk b10 (.cells #[.func (.func 21) #[] #[.pointer (some ⟨b1, 0, none⟩), .pointer (some ⟨b2, 0, none⟩)], .func (.func 23) #[] #[.pointer (some ⟨b1, 0, none⟩)], .func (.func 24) #[.pointer (some ⟨SB, 0, none⟩)] #[], .func (.func 20) #[] #[.pointer (some ⟨b1, 0, none⟩)], .func (.func 25) #[] #[.pointer (some ⟨b1, 0, none⟩), .pointer (some ⟨b7, 0, none⟩)]] 60 (0, 0)), row CA n cc 3 1 (ints cells), row TA t tc 46 2 tcells] (drop_sp hml hbq hsb) rfl (fun _ _ => ev0) rfl en20 rfl rfl trivial ?_
  rintro _ _F _ ⟨rfl, rfl, rfl⟩ hle11
  refine St.nil ?_
  refine St.norm ?_
  refine St.seq ?_
  refine St.region ?_
  refine St.val (v := (.bool true)) (Yields.assign rfl) trivial rfl rfl ?_
  refine St.nil ?_
  refine St.norm ?_
  refine St.ret ?_
  refine St.pick (R := [blk SB (.cells #[.slice CA n cc, .slice TA t tc, .slice MA q mc] 40 (0, 0)), blk b10 (.cells #[.func (.func 21) #[] #[.pointer (some ⟨b1, 0, none⟩), .pointer (some ⟨b2, 0, none⟩)], .func (.func 23) #[] #[.pointer (some ⟨b1, 0, none⟩)], .func (.func 24) #[.pointer (some ⟨SB, 0, none⟩)] #[], .func (.func 20) #[] #[.pointer (some ⟨b1, 0, none⟩)], .func (.func 25) #[] #[.pointer (some ⟨b1, 0, none⟩), .pointer (some ⟨b7, 0, none⟩)]] 60 (0, 0)), row CA n cc 3 1 (ints cells), row TA t tc 46 2 tcells]) 1 rfl rfl ?_
  refine St.pick (R := [row MA q mc 3 1 (ints marks.dropLast), blk SB (.cells #[.slice CA n cc, .slice TA t tc, .slice MA q mc] 40 (0, 0)), blk b10 (.cells #[.func (.func 21) #[] #[.pointer (some ⟨b1, 0, none⟩), .pointer (some ⟨b2, 0, none⟩)], .func (.func 23) #[] #[.pointer (some ⟨b1, 0, none⟩)], .func (.func 24) #[.pointer (some ⟨SB, 0, none⟩)] #[], .func (.func 20) #[] #[.pointer (some ⟨b1, 0, none⟩)], .func (.func 25) #[] #[.pointer (some ⟨b1, 0, none⟩), .pointer (some ⟨b7, 0, none⟩)]] 60 (0, 0)), row CA n cc 3 1 (ints cells)]) 4 rfl rfl ?_
  refine St.pick (R := [row TA t tc 46 2 tcells, row MA q mc 3 1 (ints marks.dropLast), blk SB (.cells #[.slice CA n cc, .slice TA t tc, .slice MA q mc] 40 (0, 0)), blk b10 (.cells #[.func (.func 21) #[] #[.pointer (some ⟨b1, 0, none⟩), .pointer (some ⟨b2, 0, none⟩)], .func (.func 23) #[] #[.pointer (some ⟨b1, 0, none⟩)], .func (.func 24) #[.pointer (some ⟨SB, 0, none⟩)] #[], .func (.func 20) #[] #[.pointer (some ⟨b1, 0, none⟩)], .func (.func 25) #[] #[.pointer (some ⟨b1, 0, none⟩), .pointer (some ⟨b7, 0, none⟩)]] 60 (0, 0))]) 4 rfl rfl ?_
  refine St.pick (R := [row CA n cc 3 1 (ints cells), row TA t tc 46 2 tcells, row MA q mc 3 1 (ints marks.dropLast), blk b10 (.cells #[.func (.func 21) #[] #[.pointer (some ⟨b1, 0, none⟩), .pointer (some ⟨b2, 0, none⟩)], .func (.func 23) #[] #[.pointer (some ⟨b1, 0, none⟩)], .func (.func 24) #[.pointer (some ⟨SB, 0, none⟩)] #[], .func (.func 20) #[] #[.pointer (some ⟨b1, 0, none⟩)], .func (.func 25) #[] #[.pointer (some ⟨b1, 0, none⟩), .pointer (some ⟨b7, 0, none⟩)]] 60 (0, 0))]) 3 rfl rfl ?_
  refine St.pick (R := [blk SB (.cells #[.slice CA n cc, .slice TA t tc, .slice MA q mc] 40 (0, 0)), row CA n cc 3 1 (ints cells), row TA t tc 46 2 tcells, row MA q mc 3 1 (ints marks.dropLast)]) 4 rfl rfl ?_
  refine St.drop ?_
  exact St.done1 rfl rfl ⟨rfl, rfl, hT⟩

theorem do4_sp {F : PH} {SB : Nat} {CA TA MA : Option Addr} {n cc t tc m q mc : Nat} {cells : List Int} {tr : List (Int × Int)} {tcells : List Value} {marks : List Int} {a v : Int} (hT : Cat (TE SB) F tcells tr) (hb : t ≤ 100000) (hbm : m ≤ 100000) (hbq : q ≤ 100000) {to : Nat} (hn : cells.length = n) (ht : tr.length = t) (hm : marks[q]? = some (to : Int)) (hml : marks.length = q + 1) (hto : to ≤ t) (hix : ∀ e ∈ tr, 0 ≤ e.1 ∧ e.1 < n)  :
    CallSp Try.prog 16 #[.pointer (some ⟨SB, 0, none⟩), .agg #[.int .i64 4, .int .i64 a, .int .i64 v]] F [blk SB (.cells #[.slice CA n cc, .slice TA t tc, .slice MA (q + 1) mc] 40 (0, 0)), row CA n cc 3 1 (ints cells), row TA t tc 46 2 tcells, row MA (q + 1) mc 3 1 (ints marks)] (fun u F' H' => u = .bool true ∧ H' = [blk SB (.cells #[.slice CA n cc, .slice TA to tc, .slice MA q mc] 40 (0, 0)), row CA n cc 3 1 (ints (undo cells (tr.drop to))), row TA to tc 46 2 (tcells.take (to * 2)), row MA q mc 3 1 (ints marks.dropLast)] ∧ Cat (TE SB) F' (tcells.take (to * 2)) (tr.take to)) := by
  refine CallSp.enter (args := [.pointer (some ⟨SB, 0, none⟩), .agg #[.int .i64 4, .int .i64 a, .int .i64 v]]) Try.func16 rfl rfl ?_
  intro w0 m0 hm0
  refine St.seq ?_
  refine St.region ?_
  refine St.box rfl trivial rfl ?_
  intro b1
  refine St.box rfl trivial rfl ?_
  intro b2
  refine St.val (v := (.bool false)) (Yields.assign rfl) trivial rfl rfl ?_
  refine St.nil ?_
  refine St.norm ?_
  refine St.seq ?_
  refine St.seq ?_
  refine St.region ?_
  refine St.freeze_blk (R := [blk b2 (.cells #[.int .i64 4, .int .i64 a, .int .i64 v] 29 (0, 0)), blk SB (.cells #[.slice CA n cc, .slice TA t tc, .slice MA (q + 1) mc] 40 (0, 0)), row CA n cc 3 1 (ints cells), row TA t tc 46 2 tcells, row MA (q + 1) mc 3 1 (ints marks)]) 1 rfl rfl ?_
  intro F3 hle4 hsb
  replace hT := Cat.mono hle4 hT
  refine St.freeze_blk (R := [blk SB (.cells #[.slice CA n cc, .slice TA t tc, .slice MA (q + 1) mc] 40 (0, 0)), row CA n cc 3 1 (ints cells), row TA t tc 46 2 tcells, row MA (q + 1) mc 3 1 (ints marks)]) 0 rfl rfl ?_
  intro F5 hle6 hxb
  replace hT := Cat.mono hle6 hT
  have hsb := hle6 _ _ hsb
  refine St.val (v := (.pointer (some ⟨b2, 0, none⟩))) (Yields.fieldAddr (v := (.pointer (some ⟨b2, 0, none⟩))) rfl (fun _ => by kernel_rfl)) trivial rfl rfl ?_
  refine St.val (v := (.int .i64 4)) (Yields.load rfl (Loads.Fb hxb tc3 rfl)) trivial rfl rfl ?_
  refine St.val (v := (.bool true)) (Yields.is (by decide) (Yields.gt rfl rfl)) trivial rfl rfl ?_
  refine St.val (v := (.bool true)) (Yields.move rfl) trivial rfl rfl ?_
  refine St.val (v := (.pointer (some ⟨SB, 0, none⟩))) (Yields.load rfl (Loads.Fb hsb tc35 rfl)) rfl rfl rfl ?_
  refine St.val (v := (.pointer (some ⟨SB, 0, none⟩))) (Yields.nilCheck rfl) rfl rfl rfl ?_
  refine St.val (v := (.pointer (some ⟨SB, 2, none⟩))) (Yields.fieldAddr (v := (.pointer (some ⟨SB, 2, none⟩))) rfl (fun _ => by kernel_rfl)) rfl rfl rfl ?_
  refine St.val (v := (.slice MA (q + 1) mc)) (Yields.load rfl (Loads.H1 0 rfl tc23 rfl)) rfl rfl rfl ?_
  refine St.val (v := (.int .i64 ((q + 1) : Int))) (Yields.lenSlice tu23 rfl) rfl rfl rfl ?_
  refine St.val (v := (.bool false)) (Yields.isnt (by omega) (Yields.eq rfl rfl)) rfl rfl rfl ?_
  refine St.val (v := (.bool false)) (Yields.pick_t rfl rfl) trivial rfl rfl ?_
  refine St.nil ?_
  refine St.norm ?_
  refine St.cond_f rfl ?_
  refine St.skip ?_
  refine St.norm ?_
  refine St.seq ?_
  refine St.region ?_
  refine St.val (v := (.func (.func 20) #[] #[.pointer (some ⟨b1, 0, none⟩)])) (Yields.makeFunc (fun _ _ => ev0) (fun _ ha => ev1 ha rfl)) trivial rfl rfl ?_
  refine St.alloc tz1 trivial rfl ?_
  intro b7
  refine St.store (R := [blk SB (.cells #[.slice CA n cc, .slice TA t tc, .slice MA (q + 1) mc] 40 (0, 0)), row CA n cc 3 1 (ints cells), row TA t tc 46 2 tcells, row MA (q + 1) mc 3 1 (ints marks)]) rfl rfl 0 rfl rfl tc1 rfl rfl trivial (cs' := #[.func (.func 20) #[] #[.pointer (some ⟨b1, 0, none⟩)]]) rfl ?_
  refine St.nil ?_
  refine St.norm ?_
  refine St.seq ?_
  refine St.region ?_
  refine St.freeze_blk (R := [blk SB (.cells #[.slice CA n cc, .slice TA t tc, .slice MA (q + 1) mc] 40 (0, 0)), row CA n cc 3 1 (ints cells), row TA t tc 46 2 tcells, row MA (q + 1) mc 3 1 (ints marks)]) 0 rfl rfl ?_
  intro F8 hle9 hdb
  replace hT := Cat.mono hle9 hT
  have hsb := hle9 _ _ hsb
  have hxb := hle9 _ _ hxb
  refine St.val (v := (.func (.func 21) #[] #[.pointer (some ⟨b1, 0, none⟩), .pointer (some ⟨b2, 0, none⟩)])) (Yields.makeFunc (fun _ _ => ev0) (fun _ ha => ev2 ha rfl rfl)) trivial rfl rfl ?_
  refine St.val (v := (.func (.func 23) #[] #[.pointer (some ⟨b1, 0, none⟩)])) (Yields.makeFunc (fun _ _ => ev0) (fun _ ha => ev1 ha rfl)) trivial rfl rfl ?_
  refine St.val (v := (.pointer (some ⟨SB, 0, none⟩))) (Yields.load rfl (Loads.Fb hsb tc35 rfl)) trivial rfl rfl ?_
  refine St.val (v := (.func (.func 24) #[.pointer (some ⟨SB, 0, none⟩)] #[])) (Yields.makeFunc (fun _ ha => ev1 ha rfl) (fun _ _ => ev0)) trivial rfl rfl ?_
  refine St.val (v := (.func (.func 20) #[] #[.pointer (some ⟨b1, 0, none⟩)])) (Yields.load rfl (Loads.Fb hdb tc1 rfl)) trivial rfl rfl ?_
  refine St.val (v := (.func (.func 25) #[] #[.pointer (some ⟨b1, 0, none⟩), .pointer (some ⟨b7, 0, none⟩)])) (Yields.makeFunc (fun _ _ => ev0) (fun _ ha => ev2 ha rfl rfl)) trivial rfl rfl ?_
  refine St.val (v := (.agg #[.func (.func 21) #[] #[.pointer (some ⟨b1, 0, none⟩), .pointer (some ⟨b2, 0, none⟩)], .func (.func 23) #[] #[.pointer (some ⟨b1, 0, none⟩)], .func (.func 24) #[.pointer (some ⟨SB, 0, none⟩)] #[], .func (.func 20) #[] #[.pointer (some ⟨b1, 0, none⟩)], .func (.func 25) #[] #[.pointer (some ⟨b1, 0, none⟩), .pointer (some ⟨b7, 0, none⟩)]])) (Yields.build (v := (.agg #[.func (.func 21) #[] #[.pointer (some ⟨b1, 0, none⟩), .pointer (some ⟨b2, 0, none⟩)], .func (.func 23) #[] #[.pointer (some ⟨b1, 0, none⟩)], .func (.func 24) #[.pointer (some ⟨SB, 0, none⟩)] #[], .func (.func 20) #[] #[.pointer (some ⟨b1, 0, none⟩)], .func (.func 25) #[] #[.pointer (some ⟨b1, 0, none⟩), .pointer (some ⟨b7, 0, none⟩)]])) (vs := #[(0, .func (.func 21) #[] #[.pointer (some ⟨b1, 0, none⟩), .pointer (some ⟨b2, 0, none⟩)]), (1, .func (.func 23) #[] #[.pointer (some ⟨b1, 0, none⟩)]), (2, .func (.func 24) #[.pointer (some ⟨SB, 0, none⟩)] #[]), (3, .func (.func 20) #[] #[.pointer (some ⟨b1, 0, none⟩)]), (4, .func (.func 25) #[] #[.pointer (some ⟨b1, 0, none⟩), .pointer (some ⟨b7, 0, none⟩)])]) (fun _ ha => evp5 ha rfl rfl rfl rfl rfl) (fun _ => by kernel_rfl)) trivial rfl rfl ?_
  refine St.alloc tz60 trivial rfl ?_
  intro b10
  refine St.storen (R := [blk SB (.cells #[.slice CA n cc, .slice TA t tc, .slice MA (q + 1) mc] 40 (0, 0)), row CA n cc 3 1 (ints cells), row TA t tc 46 2 tcells, row MA (q + 1) mc 3 1 (ints marks)]) rfl rfl 0 rfl rfl ta60 rfl rfl rfl trivial (cs' := #[.func (.func 21) #[] #[.pointer (some ⟨b1, 0, none⟩), .pointer (some ⟨b2, 0, none⟩)], .func (.func 23) #[] #[.pointer (some ⟨b1, 0, none⟩)], .func (.func 24) #[.pointer (some ⟨SB, 0, none⟩)] #[], .func (.func 20) #[] #[.pointer (some ⟨b1, 0, none⟩)], .func (.func 25) #[] #[.pointer (some ⟨b1, 0, none⟩), .pointer (some ⟨b7, 0, none⟩)]]) rfl ?_
  refine St.nil ?_
  refine St.norm ?_
  refine St.seq ?_
  refine St.region ?_
  refine St.val (v := (.pointer (some ⟨b2, 0, none⟩))) (Yields.fieldAddr (v := (.pointer (some ⟨b2, 0, none⟩))) rfl (fun _ => by kernel_rfl)) trivial rfl rfl ?_
  refine St.val (v := (.int .i64 4)) (Yields.load rfl (Loads.Fb hxb tc3 rfl)) trivial rfl rfl ?_
  refine St.val (v := (.pointer (some ⟨b10, 4, none⟩))) (Yields.indexArr (p := ⟨b10, 4, none⟩) tr60 rfl rfl (by decide) (by decide) rfl) trivial rfl rfl ?_
  refine St.val (v := (.func (.func 25) #[] #[.pointer (some ⟨b1, 0, none⟩), .pointer (some ⟨b7, 0, none⟩)])) (Yields.load rfl (Loads.H1 0 rfl tc1 rfl)) trivial rfl rfl ?_
  refine St.pick (R := [blk b10 (.cells #[.func (.func 21) #[] #[.pointer (some ⟨b1, 0, none⟩), .pointer (some ⟨b2, 0, none⟩)], .func (.func 23) #[] #[.pointer (some ⟨b1, 0, none⟩)], .func (.func 24) #[.pointer (some ⟨SB, 0, none⟩)] #[], .func (.func 20) #[] #[.pointer (some ⟨b1, 0, none⟩)], .func (.func 25) #[] #[.pointer (some ⟨b1, 0, none⟩), .pointer (some ⟨b7, 0, none⟩)]] 60 (0, 0)), blk SB (.cells #[.slice CA n cc, .slice TA t tc, .slice MA (q + 1) mc] 40 (0, 0)), row CA n cc 3 1 (ints cells), row TA t tc 46 2 tcells]) 4 rfl rfl ?_
  refine St.pick (R := [row MA (q + 1) mc 3 1 (ints marks), blk b10 (.cells #[.func (.func 21) #[] #[.pointer (some ⟨b1, 0, none⟩), .pointer (some ⟨b2, 0, none⟩)], .func (.func 23) #[] #[.pointer (some ⟨b1, 0, none⟩)], .func (.func 24) #[.pointer (some ⟨SB, 0, none⟩)] #[], .func (.func 20) #[] #[.pointer (some ⟨b1, 0, none⟩)], .func (.func 25) #[] #[.pointer (some ⟨b1, 0, none⟩), .pointer (some ⟨b7, 0, none⟩)]] 60 (0, 0)), blk SB (.cells #[.slice CA n cc, .slice TA t tc, .slice MA (q + 1) mc] 40 (0, 0)), row CA n cc 3 1 (ints cells)]) 4 rfl rfl ?_
  refine St.pick (R := [row TA t tc 46 2 tcells, row MA (q + 1) mc 3 1 (ints marks), blk b10 (.cells #[.func (.func 21) #[] #[.pointer (some ⟨b1, 0, none⟩), .pointer (some ⟨b2, 0, none⟩)], .func (.func 23) #[] #[.pointer (some ⟨b1, 0, none⟩)], .func (.func 24) #[.pointer (some ⟨SB, 0, none⟩)] #[], .func (.func 20) #[] #[.pointer (some ⟨b1, 0, none⟩)], .func (.func 25) #[] #[.pointer (some ⟨b1, 0, none⟩), .pointer (some ⟨b7, 0, none⟩)]] 60 (0, 0)), blk SB (.cells #[.slice CA n cc, .slice TA t tc, .slice MA (q + 1) mc] 40 (0, 0))]) 4 rfl rfl ?_
  refine St.pick (R := [row CA n cc 3 1 (ints cells), row TA t tc 46 2 tcells, row MA (q + 1) mc 3 1 (ints marks), blk b10 (.cells #[.func (.func 21) #[] #[.pointer (some ⟨b1, 0, none⟩), .pointer (some ⟨b2, 0, none⟩)], .func (.func 23) #[] #[.pointer (some ⟨b1, 0, none⟩)], .func (.func 24) #[.pointer (some ⟨SB, 0, none⟩)] #[], .func (.func 20) #[] #[.pointer (some ⟨b1, 0, none⟩)], .func (.func 25) #[] #[.pointer (some ⟨b1, 0, none⟩), .pointer (some ⟨b7, 0, none⟩)]] 60 (0, 0))]) 4 rfl rfl ?_
  refine St.call [blk b10 (.cells #[.func (.func 21) #[] #[.pointer (some ⟨b1, 0, none⟩), .pointer (some ⟨b2, 0, none⟩)], .func (.func 23) #[] #[.pointer (some ⟨b1, 0, none⟩)], .func (.func 24) #[.pointer (some ⟨SB, 0, none⟩)] #[], .func (.func 20) #[] #[.pointer (some ⟨b1, 0, none⟩)], .func (.func 25) #[] #[.pointer (some ⟨b1, 0, none⟩), .pointer (some ⟨b7, 0, none⟩)]] 60 (0, 0))] (undo_sp hn ht hm hml hbq hto hix hT hb hsb hdb) rfl (fun _ _ => ev0) rfl en25 rfl rfl trivial ?_
  rintro _ _F _ ⟨rfl, rfl, rfl⟩ hle11
  refine St.nil ?_
  refine St.norm ?_
  refine St.seq ?_
  refine St.region ?_
  refine St.val (v := (.bool true)) (Yields.assign rfl) trivial rfl rfl ?_
  refine St.nil ?_
  refine St.norm ?_
  refine St.ret ?_
  refine St.pick (R := [blk SB (.cells #[.slice CA n cc, .slice TA to tc, .slice MA q mc] 40 (0, 0)), row CA n cc 3 1 (ints (undo cells (tr.drop to))), row TA to tc 46 2 (tcells.take (to * 2)), blk b10 (.cells #[.func (.func 21) #[] #[.pointer (some ⟨b1, 0, none⟩), .pointer (some ⟨b2, 0, none⟩)], .func (.func 23) #[] #[.pointer (some ⟨b1, 0, none⟩)], .func (.func 24) #[.pointer (some ⟨SB, 0, none⟩)] #[], .func (.func 20) #[] #[.pointer (some ⟨b1, 0, none⟩)], .func (.func 25) #[] #[.pointer (some ⟨b1, 0, none⟩), .pointer (some ⟨b7, 0, none⟩)]] 60 (0, 0))]) 3 rfl rfl ?_
  refine St.pick (R := [row MA q mc 3 1 (ints marks.dropLast), blk SB (.cells #[.slice CA n cc, .slice TA to tc, .slice MA q mc] 40 (0, 0)), row CA n cc 3 1 (ints (undo cells (tr.drop to))), blk b10 (.cells #[.func (.func 21) #[] #[.pointer (some ⟨b1, 0, none⟩), .pointer (some ⟨b2, 0, none⟩)], .func (.func 23) #[] #[.pointer (some ⟨b1, 0, none⟩)], .func (.func 24) #[.pointer (some ⟨SB, 0, none⟩)] #[], .func (.func 20) #[] #[.pointer (some ⟨b1, 0, none⟩)], .func (.func 25) #[] #[.pointer (some ⟨b1, 0, none⟩), .pointer (some ⟨b7, 0, none⟩)]] 60 (0, 0))]) 3 rfl rfl ?_
  refine St.pick (R := [row TA to tc 46 2 (tcells.take (to * 2)), row MA q mc 3 1 (ints marks.dropLast), blk SB (.cells #[.slice CA n cc, .slice TA to tc, .slice MA q mc] 40 (0, 0)), blk b10 (.cells #[.func (.func 21) #[] #[.pointer (some ⟨b1, 0, none⟩), .pointer (some ⟨b2, 0, none⟩)], .func (.func 23) #[] #[.pointer (some ⟨b1, 0, none⟩)], .func (.func 24) #[.pointer (some ⟨SB, 0, none⟩)] #[], .func (.func 20) #[] #[.pointer (some ⟨b1, 0, none⟩)], .func (.func 25) #[] #[.pointer (some ⟨b1, 0, none⟩), .pointer (some ⟨b7, 0, none⟩)]] 60 (0, 0))]) 3 rfl rfl ?_
  refine St.pick (R := [row CA n cc 3 1 (ints (undo cells (tr.drop to))), row TA to tc 46 2 (tcells.take (to * 2)), row MA q mc 3 1 (ints marks.dropLast), blk b10 (.cells #[.func (.func 21) #[] #[.pointer (some ⟨b1, 0, none⟩), .pointer (some ⟨b2, 0, none⟩)], .func (.func 23) #[] #[.pointer (some ⟨b1, 0, none⟩)], .func (.func 24) #[.pointer (some ⟨SB, 0, none⟩)] #[], .func (.func 20) #[] #[.pointer (some ⟨b1, 0, none⟩)], .func (.func 25) #[] #[.pointer (some ⟨b1, 0, none⟩), .pointer (some ⟨b7, 0, none⟩)]] 60 (0, 0))]) 3 rfl rfl ?_
  refine St.pick (R := [blk SB (.cells #[.slice CA n cc, .slice TA to tc, .slice MA q mc] 40 (0, 0)), row CA n cc 3 1 (ints (undo cells (tr.drop to))), row TA to tc 46 2 (tcells.take (to * 2)), row MA q mc 3 1 (ints marks.dropLast)]) 4 rfl rfl ?_
  refine St.drop ?_
  exact St.done1 rfl rfl ⟨rfl, rfl, Cat.take (K := TE SB) to hT⟩

theorem donone_sp {F : PH} {SB : Nat} {CA TA MA : Option Addr} {n cc t tc m q mc : Nat} {cells : List Int} {tr : List (Int × Int)} {tcells : List Value} {marks : List Int} {a v : Int} (hT : Cat (TE SB) F tcells tr) (hb : t ≤ 100000) (hbm : m ≤ 100000) (hbq : q ≤ 100000) {kk : Int} (hk : kk > 1)  :
    CallSp Try.prog 16 #[.pointer (some ⟨SB, 0, none⟩), .agg #[.int .i64 kk, .int .i64 a, .int .i64 v]] F [blk SB (.cells #[.slice CA n cc, .slice TA t tc, .slice MA 0 mc] 40 (0, 0)), row CA n cc 3 1 (ints cells), row TA t tc 46 2 tcells, row MA 0 mc 3 1 (ints marks)] (fun u F' H' => u = .bool false ∧ H' = [blk SB (.cells #[.slice CA n cc, .slice TA t tc, .slice MA 0 mc] 40 (0, 0)), row CA n cc 3 1 (ints cells), row TA t tc 46 2 tcells, row MA 0 mc 3 1 (ints marks)] ∧ Cat (TE SB) F' tcells (tr)) := by
  refine CallSp.enter (args := [.pointer (some ⟨SB, 0, none⟩), .agg #[.int .i64 kk, .int .i64 a, .int .i64 v]]) Try.func16 rfl rfl ?_
  intro w0 m0 hm0
  refine St.seq ?_
  refine St.region ?_
  refine St.box rfl trivial rfl ?_
  intro b1
  refine St.box rfl trivial rfl ?_
  intro b2
  refine St.val (v := (.bool false)) (Yields.assign rfl) trivial rfl rfl ?_
  refine St.nil ?_
  refine St.norm ?_
  refine St.seq ?_
  refine St.seq ?_
  refine St.region ?_
  refine St.freeze_blk (R := [blk b2 (.cells #[.int .i64 kk, .int .i64 a, .int .i64 v] 29 (0, 0)), blk SB (.cells #[.slice CA n cc, .slice TA t tc, .slice MA 0 mc] 40 (0, 0)), row CA n cc 3 1 (ints cells), row TA t tc 46 2 tcells, row MA 0 mc 3 1 (ints marks)]) 1 rfl rfl ?_
  intro F3 hle4 hsb
  replace hT := Cat.mono hle4 hT
  refine St.freeze_blk (R := [blk SB (.cells #[.slice CA n cc, .slice TA t tc, .slice MA 0 mc] 40 (0, 0)), row CA n cc 3 1 (ints cells), row TA t tc 46 2 tcells, row MA 0 mc 3 1 (ints marks)]) 0 rfl rfl ?_
  intro F5 hle6 hxb
  replace hT := Cat.mono hle6 hT
  have hsb := hle6 _ _ hsb
  refine St.val (v := (.pointer (some ⟨b2, 0, none⟩))) (Yields.fieldAddr (v := (.pointer (some ⟨b2, 0, none⟩))) rfl (fun _ => by kernel_rfl)) trivial rfl rfl ?_
  refine St.val (v := (.int .i64 kk)) (Yields.load rfl (Loads.Fb hxb tc3 rfl)) trivial rfl rfl ?_
  refine St.val (v := (.bool true)) (Yields.is hk (Yields.gt rfl rfl)) trivial rfl rfl ?_
  refine St.val (v := (.bool true)) (Yields.move rfl) trivial rfl rfl ?_
  refine St.val (v := (.pointer (some ⟨SB, 0, none⟩))) (Yields.load rfl (Loads.Fb hsb tc35 rfl)) rfl rfl rfl ?_
  refine St.val (v := (.pointer (some ⟨SB, 0, none⟩))) (Yields.nilCheck rfl) rfl rfl rfl ?_
  refine St.val (v := (.pointer (some ⟨SB, 2, none⟩))) (Yields.fieldAddr (v := (.pointer (some ⟨SB, 2, none⟩))) rfl (fun _ => by kernel_rfl)) rfl rfl rfl ?_
  refine St.val (v := (.slice MA 0 mc)) (Yields.load rfl (Loads.H1 0 rfl tc23 rfl)) rfl rfl rfl ?_
  refine St.val (v := (.int .i64 0)) (Yields.lenSlice tu23 rfl) rfl rfl rfl ?_
  refine St.val (v := (.bool true)) (Yields.is (by decide) (Yields.eq rfl rfl)) rfl rfl rfl ?_
  refine St.val (v := (.bool true)) (Yields.pick_t rfl rfl) trivial rfl rfl ?_
  refine St.nil ?_
  refine St.norm ?_
  refine St.cond_t rfl ?_
  refine St.seq ?_
  refine St.region ?_
  refine St.val (v := (.bool false)) (Yields.assign rfl) trivial rfl rfl ?_
  refine St.nil ?_
  refine St.norm ?_
  refine St.ret ?_
  refine St.thenret ?_
  refine St.pick (R := [blk SB (.cells #[.slice CA n cc, .slice TA t tc, .slice MA 0 mc] 40 (0, 0)), row CA n cc 3 1 (ints cells), row TA t tc 46 2 tcells]) 3 rfl rfl ?_
  refine St.pick (R := [row MA 0 mc 3 1 (ints marks), blk SB (.cells #[.slice CA n cc, .slice TA t tc, .slice MA 0 mc] 40 (0, 0)), row CA n cc 3 1 (ints cells)]) 3 rfl rfl ?_
  refine St.pick (R := [row TA t tc 46 2 tcells, row MA 0 mc 3 1 (ints marks), blk SB (.cells #[.slice CA n cc, .slice TA t tc, .slice MA 0 mc] 40 (0, 0))]) 3 rfl rfl ?_
  refine St.pick (R := [row CA n cc 3 1 (ints cells), row TA t tc 46 2 tcells, row MA 0 mc 3 1 (ints marks)]) 3 rfl rfl ?_
  exact St.done1 rfl rfl ⟨rfl, rfl, hT⟩

end Go.Proofs.Ytaajfhcjpejmjaa