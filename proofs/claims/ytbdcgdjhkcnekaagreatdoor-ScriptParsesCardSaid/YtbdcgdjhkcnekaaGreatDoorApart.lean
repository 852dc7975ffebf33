/-
  phratrylaw01's Book over two held lists: Apart answers true.
-/
import Derived.Test.YtbdcgdjhkcnekaaGreatDoorBookI
import Derived.Test.YtbdcgdjhkcnekaaGreatDoorBookN
import Derived.Test.YtbdcgdjhkcnekaaGreatDoorBookB
namespace Go.Proofs.YtbdcgdjhkcnekaaGreatDoor
open Go Go.RowKit

def BitsOut (w : World) (i : Value) (wr : World) : Prop := ∃ k : Nat, k ≤ 8 ∧ i = .int .u64 k ∧ wr = w

set_option maxRecDepth 100000 in
set_option maxHeartbeats 6400000 in
theorem apart_any (B b g cap : Nat) (V : Nat → Value) (L : Nat → List StepD) (w : World) (h : Held2 w b g cap V L) (hF : Far2 B b g V) (hBw : B ≤ w.heap.size) (hlen : ∀ i, i < 2 → (L i).length ≤ 2048) :
    Calls Tryz.prog 8 #[.pointer (some ⟨b, 0, none⟩)] w fun e w' => e = .returned (.bool true) ∧ Below B w w' := by
  have HF := Lib.hid hF; clear hF
  have Hlen := Lib.hid hlen; clear hlen
  have hbk : BookAt w b 2 (.slice (some ⟨g, 0, none⟩) 2 cap) := h.book
  have Hbk := Lib.hid hbk; clear hbk
  have H := Lib.hid h; clear h
  go_enter Tryz.func8, Tryz.ntmps8
  go_wp2_with fail
  refine (fillNumber_nil b _ ((cell_row Hbk.out 2).trans rfl)).mono ?_
  rintro e w0 ⟨rfl, hw0⟩; subst w0
  go_wp2_with fail
  refine (fillWide_nil b _ ((cell_row Hbk.out 3).trans rfl)).mono ?_
  rintro e w0 ⟨rfl, hw0⟩; subst w0
  go_wp2_with fail
  refine (fillText_nil b _ ((cell_row Hbk.out 4).trans rfl)).mono ?_
  rintro e w0 ⟨rfl, hw0⟩; subst w0
  go_wp2_with fail
  refine (fillTerm_nil b _ ((cell_row Hbk.out 5).trans rfl)).mono ?_
  rintro e w0 ⟨rfl, hw0⟩; subst w0
  go_wp2_with fail
  refine (fillSeal_nil b _ ((cell_row Hbk.out 6).trans rfl)).mono ?_
  rintro e w0 ⟨rfl, hw0⟩; subst w0
  go_wp2_with fail
  refine (fillKey_nil b _ ((cell_row Hbk.out 7).trans rfl)).mono ?_
  rintro e w0 ⟨rfl, hw0⟩; subst w0
  go_wp2_with fail
  refine (fillAdd_nil b _ ((cell_row Hbk.out 8).trans rfl)).mono ?_
  rintro e w0 ⟨rfl, hw0⟩; subst w0
  go_wp2_with fail
  refine (fillJoin_nil b _ ((cell_row Hbk.out 9).trans rfl)).mono ?_
  rintro e w0 ⟨rfl, hw0⟩; subst w0
  go_wp2_with fail
  refine (fillPast_nil b _ ((cell_row Hbk.out 10).trans rfl)).mono ?_
  rintro e w0 ⟨rfl, hw0⟩; subst w0
  go_wp2_with fail
  refine (fillCard_nil b _ ((cell_row Hbk.out 11).trans rfl)).mono ?_
  rintro e w0 ⟨rfl, hw0⟩; subst w0
  go_wp2_with fail
  refine (fillGot_nil b _ ((cell_row Hbk.out 12).trans rfl)).mono ?_
  rintro e w0 ⟨rfl, hw0⟩; subst w0
  go_wp2_with fail
  refine (fillNote_nil b _ ((cell_row Hbk.out 13).trans rfl)).mono ?_
  rintro e w0 ⟨rfl, hw0⟩; subst w0
  go_wp2_with fail
  refine (fillAnswer_nil b _ ((cell_row Hbk.out 14).trans rfl)).mono ?_
  rintro e w0 ⟨rfl, hw0⟩; subst w0
  go_wp2_with fail
  refine (fillOutcome_nil b _ ((cell_row Hbk.out 15).trans rfl)).mono ?_
  rintro e w0 ⟨rfl, hw0⟩; subst w0
  go_wp2_with fail
  refine (fillFinding_nil b _ ((cell_row Hbk.out 16).trans rfl)).mono ?_
  rintro e w0 ⟨rfl, hw0⟩; subst w0
  go_wp2_with fail
  refine (fillStep_any B b g cap V L _ H.out (fun i hi k hk => (HF.out.far i hi k hk).1) HF.out.apart (fun i hi k hk => (HF.out.far i hi k hk).2) hBw (fun i hi => Nat.le_trans (Hlen.out i hi) (by omega))).mono ?_
  rintro e w1 ⟨rfl, h1, hb1⟩
  have hbk : BookAt w1 b 2 (.slice (some ⟨g, 0, none⟩) 2 cap) := h1.book
  have Hbk := Lib.hid hbk; clear hbk
  have H1 := Lib.hid h1; clear h1 H
  have Hb1 := Lib.hid hb1; clear hb1
  go_wp2_with fail
  refine (fillWrite_nil b _ ((cell_row Hbk.out 18).trans rfl)).mono ?_
  rintro e w0 ⟨rfl, hw0⟩; subst w0
  go_wp2_with fail
  refine (fillNode_nil b _ ((cell_row Hbk.out 19).trans rfl)).mono ?_
  rintro e w0 ⟨rfl, hw0⟩; subst w0
  go_wp2_with fail
  refine (fillTree_nil b _ ((cell_row Hbk.out 20).trans rfl)).mono ?_
  rintro e w0 ⟨rfl, hw0⟩; subst w0
  go_wp2_with fail
  refine (fillCommit_nil b _ ((cell_row Hbk.out 21).trans rfl)).mono ?_
  rintro e w0 ⟨rfl, hw0⟩; subst w0
  go_wp2_with fail
  refine (fillState_nil b _ ((cell_row Hbk.out 22).trans rfl)).mono ?_
  rintro e w0 ⟨rfl, hw0⟩; subst w0
  go_wp2_with fail
  refine (fillFace_nil b _ ((cell_row Hbk.out 23).trans rfl)).mono ?_
  rintro e w0 ⟨rfl, hw0⟩; subst w0
  go_wp2_with fail
  refine (fillRequest_nil b _ ((cell_row Hbk.out 24).trans rfl)).mono ?_
  rintro e w0 ⟨rfl, hw0⟩; subst w0
  go_wp2_with fail
  refine (fillMail_nil b _ ((cell_row Hbk.out 25).trans rfl)).mono ?_
  rintro e w0 ⟨rfl, hw0⟩; subst w0
  go_wp2_with fail
  refine (fillPending_nil b _ ((cell_row Hbk.out 26).trans rfl)).mono ?_
  rintro e w0 ⟨rfl, hw0⟩; subst w0
  go_wp2_with fail
  refine (fillFeed_nil b _ ((cell_row Hbk.out 27).trans rfl)).mono ?_
  rintro e w0 ⟨rfl, hw0⟩; subst w0
  go_wp2_with fail
  refine (fillLog_nil b _ ((cell_row Hbk.out 28).trans rfl)).mono ?_
  rintro e w0 ⟨rfl, hw0⟩; subst w0
  go_wp2_with fail
  refine (fillBox_nil b _ ((cell_row Hbk.out 29).trans rfl)).mono ?_
  rintro e w0 ⟨rfl, hw0⟩; subst w0
  go_wp2_with fail
  refine (fillEarly_nil b _ ((cell_row Hbk.out 30).trans rfl)).mono ?_
  rintro e w0 ⟨rfl, hw0⟩; subst w0
  go_wp2_with fail
  refine (fillLink_nil b _ ((cell_row Hbk.out 31).trans rfl)).mono ?_
  rintro e w0 ⟨rfl, hw0⟩; subst w0
  go_wp2_with fail
  refine (fillPacket_nil b _ ((cell_row Hbk.out 32).trans rfl)).mono ?_
  rintro e w0 ⟨rfl, hw0⟩; subst w0
  go_wp2_with fail
  refine (fillTermRow_nil b _ ((cell_row Hbk.out 33).trans rfl)).mono ?_
  rintro e w0 ⟨rfl, hw0⟩; subst w0
  go_wp2_with fail
  refine (fillNumberRow_nil b _ ((cell_row Hbk.out 34).trans rfl)).mono ?_
  rintro e w0 ⟨rfl, hw0⟩; subst w0
  go_wp2_with fail
  refine (growNumber_nil b _ ((cell_row Hbk.out 2).trans rfl)).mono ?_
  rintro e w0 ⟨rfl, hw0⟩; subst w0
  go_wp2_with fail
  refine (growWide_nil b _ ((cell_row Hbk.out 3).trans rfl)).mono ?_
  rintro e w0 ⟨rfl, hw0⟩; subst w0
  go_wp2_with fail
  refine (growText_nil b _ ((cell_row Hbk.out 4).trans rfl)).mono ?_
  rintro e w0 ⟨rfl, hw0⟩; subst w0
  go_wp2_with fail
  refine (growTerm_nil b _ ((cell_row Hbk.out 5).trans rfl)).mono ?_
  rintro e w0 ⟨rfl, hw0⟩; subst w0
  go_wp2_with fail
  refine (growSeal_nil b _ ((cell_row Hbk.out 6).trans rfl)).mono ?_
  rintro e w0 ⟨rfl, hw0⟩; subst w0
  go_wp2_with fail
  refine (growKey_nil b _ ((cell_row Hbk.out 7).trans rfl)).mono ?_
  rintro e w0 ⟨rfl, hw0⟩; subst w0
  go_wp2_with fail
  refine (growAdd_nil b _ ((cell_row Hbk.out 8).trans rfl)).mono ?_
  rintro e w0 ⟨rfl, hw0⟩; subst w0
  go_wp2_with fail
  refine (growJoin_nil b _ ((cell_row Hbk.out 9).trans rfl)).mono ?_
  rintro e w0 ⟨rfl, hw0⟩; subst w0
  go_wp2_with fail
  refine (growPast_nil b _ ((cell_row Hbk.out 10).trans rfl)).mono ?_
  rintro e w0 ⟨rfl, hw0⟩; subst w0
  go_wp2_with fail
  refine (growCard_nil b _ ((cell_row Hbk.out 11).trans rfl)).mono ?_
  rintro e w0 ⟨rfl, hw0⟩; subst w0
  go_wp2_with fail
  refine (growGot_nil b _ ((cell_row Hbk.out 12).trans rfl)).mono ?_
  rintro e w0 ⟨rfl, hw0⟩; subst w0
  go_wp2_with fail
  refine (growNote_nil b _ ((cell_row Hbk.out 13).trans rfl)).mono ?_
  rintro e w0 ⟨rfl, hw0⟩; subst w0
  go_wp2_with fail
  refine (growAnswer_nil b _ ((cell_row Hbk.out 14).trans rfl)).mono ?_
  rintro e w0 ⟨rfl, hw0⟩; subst w0
  go_wp2_with fail
  refine (growOutcome_nil b _ ((cell_row Hbk.out 15).trans rfl)).mono ?_
  rintro e w0 ⟨rfl, hw0⟩; subst w0
  go_wp2_with fail
  refine (growFinding_nil b _ ((cell_row Hbk.out 16).trans rfl)).mono ?_
  rintro e w0 ⟨rfl, hw0⟩; subst w0
  go_wp2_with fail
  refine (growStep_any B b g cap V _ _ H1.out HF.out (Nat.le_trans hBw Hb1.out.size) (fun i hi => by have := Hlen.out i hi; simp; omega)).mono ?_
  rintro e w2 ⟨rfl, V', h2, hb2⟩
  have hbk : BookAt w2 b 2 (.slice (some ⟨g, 0, none⟩) 2 cap) := h2.book
  have Hbk := Lib.hid hbk; clear hbk
  have H2 := Lib.hid h2; clear h2 H1
  have Hb2 := Lib.hid (Hb1.out.trans hb2); clear hb2 Hb1
  have hmk : ∀ i, i < 2 → ∀ s ∈ List.replicate (L i).length (mark (i : Int)) ++ List.replicate 3 (mark (i : Int)), s = mark (i : Int) := fun i _ s hs => by
    rcases List.mem_append.1 hs with h | h <;> exact (List.mem_replicate.1 h).2
  have hle : ∀ i, i < 2 → (List.replicate (L i).length (mark (i : Int)) ++ List.replicate 3 (mark (i : Int))).length ≤ 4096 := fun i hi => by have := Hlen.out i hi; simp; omega
  have Hmk := Lib.hid hmk; clear hmk
  have Hle := Lib.hid hle; clear hle
  go_wp2_with fail
  refine (growWrite_nil b _ ((cell_row Hbk.out 18).trans rfl)).mono ?_
  rintro e w0 ⟨rfl, hw0⟩; subst w0
  go_wp2_with fail
  refine (growNode_nil b _ ((cell_row Hbk.out 19).trans rfl)).mono ?_
  rintro e w0 ⟨rfl, hw0⟩; subst w0
  go_wp2_with fail
  refine (growTree_nil b _ ((cell_row Hbk.out 20).trans rfl)).mono ?_
  rintro e w0 ⟨rfl, hw0⟩; subst w0
  go_wp2_with fail
  refine (growCommit_nil b _ ((cell_row Hbk.out 21).trans rfl)).mono ?_
  rintro e w0 ⟨rfl, hw0⟩; subst w0
  go_wp2_with fail
  refine (growState_nil b _ ((cell_row Hbk.out 22).trans rfl)).mono ?_
  rintro e w0 ⟨rfl, hw0⟩; subst w0
  go_wp2_with fail
  refine (growFace_nil b _ ((cell_row Hbk.out 23).trans rfl)).mono ?_
  rintro e w0 ⟨rfl, hw0⟩; subst w0
  go_wp2_with fail
  refine (growRequest_nil b _ ((cell_row Hbk.out 24).trans rfl)).mono ?_
  rintro e w0 ⟨rfl, hw0⟩; subst w0
  go_wp2_with fail
  refine (growMail_nil b _ ((cell_row Hbk.out 25).trans rfl)).mono ?_
  rintro e w0 ⟨rfl, hw0⟩; subst w0
  go_wp2_with fail
  refine (growPending_nil b _ ((cell_row Hbk.out 26).trans rfl)).mono ?_
  rintro e w0 ⟨rfl, hw0⟩; subst w0
  go_wp2_with fail
  refine (growFeed_nil b _ ((cell_row Hbk.out 27).trans rfl)).mono ?_
  rintro e w0 ⟨rfl, hw0⟩; subst w0
  go_wp2_with fail
  refine (growLog_nil b _ ((cell_row Hbk.out 28).trans rfl)).mono ?_
  rintro e w0 ⟨rfl, hw0⟩; subst w0
  go_wp2_with fail
  refine (growBox_nil b _ ((cell_row Hbk.out 29).trans rfl)).mono ?_
  rintro e w0 ⟨rfl, hw0⟩; subst w0
  go_wp2_with fail
  refine (growEarly_nil b _ ((cell_row Hbk.out 30).trans rfl)).mono ?_
  rintro e w0 ⟨rfl, hw0⟩; subst w0
  go_wp2_with fail
  refine (growLink_nil b _ ((cell_row Hbk.out 31).trans rfl)).mono ?_
  rintro e w0 ⟨rfl, hw0⟩; subst w0
  go_wp2_with fail
  refine (growPacket_nil b _ ((cell_row Hbk.out 32).trans rfl)).mono ?_
  rintro e w0 ⟨rfl, hw0⟩; subst w0
  go_wp2_with fail
  refine (growTermRow_nil b _ ((cell_row Hbk.out 33).trans rfl)).mono ?_
  rintro e w0 ⟨rfl, hw0⟩; subst w0
  go_wp2_with fail
  refine (growNumberRow_nil b _ ((cell_row Hbk.out 34).trans rfl)).mono ?_
  rintro e w0 ⟨rfl, hw0⟩; subst w0
  go_wp2_with fail
  go_loopw [3] (fun i wr => BitsOut w2 i wr) (fun i _ => 8 - (intOf i).toNat)
  case atStart => exact ⟨0, by omega, rfl, rfl⟩
  case round =>
    obtain ⟨k, hk, rfl, rfl⟩ := hrel
    by_cases hlt : k < 8
    · have hk8 : (k : Int) < 8 := by omega
      go_wp2_with fail
      refine (bits_nil b k _ ((cell_row Hbk.out 1).trans rfl)).mono ?_
      rintro e w0 ⟨rfl, hw0⟩; subst w0
      go_wp2
      exact ⟨⟨k + 1, by omega, by go_num, rfl⟩, by simp [intOf]; omega⟩
    · have hk8 : ¬ (k : Int) < 8 := by omega
      go_wp2_with fail
      refine (lookNumber_nil b _ ((cell_row Hbk.out 2).trans rfl)).mono ?_; rintro e w0 ⟨rfl, hw0⟩; subst w0
      go_wp2_with fail
      refine (lookWide_nil b _ ((cell_row Hbk.out 3).trans rfl)).mono ?_; rintro e w0 ⟨rfl, hw0⟩; subst w0
      go_wp2_with fail
      refine (lookText_nil b _ ((cell_row Hbk.out 4).trans rfl)).mono ?_; rintro e w0 ⟨rfl, hw0⟩; subst w0
      go_wp2_with fail
      refine (lookTerm_nil b _ ((cell_row Hbk.out 5).trans rfl)).mono ?_; rintro e w0 ⟨rfl, hw0⟩; subst w0
      go_wp2_with fail
      refine (lookSeal_nil b _ ((cell_row Hbk.out 6).trans rfl)).mono ?_; rintro e w0 ⟨rfl, hw0⟩; subst w0
      go_wp2_with fail
      refine (lookKey_nil b _ ((cell_row Hbk.out 7).trans rfl)).mono ?_; rintro e w0 ⟨rfl, hw0⟩; subst w0
      go_wp2_with fail
      refine (lookAdd_nil b _ ((cell_row Hbk.out 8).trans rfl)).mono ?_; rintro e w0 ⟨rfl, hw0⟩; subst w0
      go_wp2_with fail
      refine (lookJoin_nil b _ ((cell_row Hbk.out 9).trans rfl)).mono ?_; rintro e w0 ⟨rfl, hw0⟩; subst w0
      go_wp2_with fail
      refine (lookPast_nil b _ ((cell_row Hbk.out 10).trans rfl)).mono ?_; rintro e w0 ⟨rfl, hw0⟩; subst w0
      go_wp2_with fail
      refine (lookCard_nil b _ ((cell_row Hbk.out 11).trans rfl)).mono ?_; rintro e w0 ⟨rfl, hw0⟩; subst w0
      go_wp2_with fail
      refine (lookGot_nil b _ ((cell_row Hbk.out 12).trans rfl)).mono ?_; rintro e w0 ⟨rfl, hw0⟩; subst w0
      go_wp2_with fail
      refine (lookNote_nil b _ ((cell_row Hbk.out 13).trans rfl)).mono ?_; rintro e w0 ⟨rfl, hw0⟩; subst w0
      go_wp2_with fail
      refine (lookAnswer_nil b _ ((cell_row Hbk.out 14).trans rfl)).mono ?_; rintro e w0 ⟨rfl, hw0⟩; subst w0
      go_wp2_with fail
      refine (lookOutcome_nil b _ ((cell_row Hbk.out 15).trans rfl)).mono ?_; rintro e w0 ⟨rfl, hw0⟩; subst w0
      go_wp2_with fail
      refine (lookFinding_nil b _ ((cell_row Hbk.out 16).trans rfl)).mono ?_; rintro e w0 ⟨rfl, hw0⟩; subst w0
      go_wp2_with fail
      refine (lookStep_any b g cap V' _ _ H2.out Hmk.out Hle.out).mono ?_; rintro e w3 ⟨rfl, hb3⟩; have hbk := row_grows hb3 Hbk.out; have Hbk3 := Lib.hid hbk; clear hbk; have Hb3 := Lib.hid (Hb2.out.trans (hb3.mono (Nat.le_trans hBw Hb2.out.size))); clear hb3
      go_wp2_with fail
      refine (lookWrite_nil b _ ((cell_row Hbk3.out 18).trans rfl)).mono ?_; rintro e w0 ⟨rfl, hw0⟩; subst w0
      go_wp2_with fail
      refine (lookNode_nil b _ ((cell_row Hbk3.out 19).trans rfl)).mono ?_; rintro e w0 ⟨rfl, hw0⟩; subst w0
      go_wp2_with fail
      refine (lookTree_nil b _ ((cell_row Hbk3.out 20).trans rfl)).mono ?_; rintro e w0 ⟨rfl, hw0⟩; subst w0
      go_wp2_with fail
      refine (lookCommit_nil b _ ((cell_row Hbk3.out 21).trans rfl)).mono ?_; rintro e w0 ⟨rfl, hw0⟩; subst w0
      go_wp2_with fail
      refine (lookState_nil b _ ((cell_row Hbk3.out 22).trans rfl)).mono ?_; rintro e w0 ⟨rfl, hw0⟩; subst w0
      go_wp2_with fail
      refine (lookFace_nil b _ ((cell_row Hbk3.out 23).trans rfl)).mono ?_; rintro e w0 ⟨rfl, hw0⟩; subst w0
      go_wp2_with fail
      refine (lookRequest_nil b _ ((cell_row Hbk3.out 24).trans rfl)).mono ?_; rintro e w0 ⟨rfl, hw0⟩; subst w0
      go_wp2_with fail
      refine (lookMail_nil b _ ((cell_row Hbk3.out 25).trans rfl)).mono ?_; rintro e w0 ⟨rfl, hw0⟩; subst w0
      go_wp2_with fail
      refine (lookPending_nil b _ ((cell_row Hbk3.out 26).trans rfl)).mono ?_; rintro e w0 ⟨rfl, hw0⟩; subst w0
      go_wp2_with fail
      refine (lookFeed_nil b _ ((cell_row Hbk3.out 27).trans rfl)).mono ?_; rintro e w0 ⟨rfl, hw0⟩; subst w0
      go_wp2_with fail
      refine (lookLog_nil b _ ((cell_row Hbk3.out 28).trans rfl)).mono ?_; rintro e w0 ⟨rfl, hw0⟩; subst w0
      go_wp2_with fail
      refine (lookBox_nil b _ ((cell_row Hbk3.out 29).trans rfl)).mono ?_; rintro e w0 ⟨rfl, hw0⟩; subst w0
      go_wp2_with fail
      refine (lookEarly_nil b _ ((cell_row Hbk3.out 30).trans rfl)).mono ?_; rintro e w0 ⟨rfl, hw0⟩; subst w0
      go_wp2_with fail
      refine (lookLink_nil b _ ((cell_row Hbk3.out 31).trans rfl)).mono ?_; rintro e w0 ⟨rfl, hw0⟩; subst w0
      go_wp2_with fail
      refine (lookPacket_nil b _ ((cell_row Hbk3.out 32).trans rfl)).mono ?_; rintro e w0 ⟨rfl, hw0⟩; subst w0
      go_wp2_with fail
      refine (lookTermRow_nil b _ ((cell_row Hbk3.out 33).trans rfl)).mono ?_; rintro e w0 ⟨rfl, hw0⟩; subst w0
      go_wp2_with fail
      refine (lookNumberRow_nil b _ ((cell_row Hbk3.out 34).trans rfl)).mono ?_; rintro e w0 ⟨rfl, hw0⟩; subst w0
      go_wp2_with fail
      go_ret
      exact ⟨rfl, Hb3.out⟩
end Go.Proofs.YtbdcgdjhkcnekaaGreatDoor
