/- phratrylaw01's Book: kinds of which there are none. -/
import Derived.Test.YtedpljclnpiggaaGreatDoorV21
set_option linter.unusedVariables false
set_option linter.unusedSimpArgs false
set_option maxRecDepth 100000
set_option maxHeartbeats 12800000
namespace Go.Proofs.YtedpljclnpiggaaGreatDoor
open Go Go.RowKit
abbrev NilC (f c : Nat) (r : Value) : Prop := ∀ (b : Nat) (w : World), w.cell? ⟨b, c, none⟩ = some (.slice none 0 0) → Calls Tryz.prog f #[.pointer (some ⟨b, 0, none⟩)] w fun e w' => e = .returned r ∧ w' = w
theorem NilC.go {f c : Nat} {r : Value} (h : NilC f c r) {b : Nat} {w : World} {K : Ending → World → Prop} (hc : w.cell? ⟨b, c, none⟩ = some (.slice none 0 0)) (hK : K (.returned r) w) : Calls Tryz.prog f #[.pointer (some ⟨b, 0, none⟩)] w K :=
 (h b w hc).mono (by rintro e w' ⟨rfl, rfl⟩; exact hK)
theorem fillNumber_nil : NilC 70 2 (.tuple #[]) := by
 intro b w hc
 go_enter Tryz.func70, Tryz.ntmps70
 go_wp2; refine wp_loop_rounds 1 ?_; rw [rounds_succ]; go_wp2; go_end0; exact ⟨rfl, rfl⟩
theorem growNumber_nil : NilC 103 2 (.tuple #[]) := by
 intro b w hc
 go_enter Tryz.func103, Tryz.ntmps103
 go_wp2; refine wp_loop_rounds 1 ?_; rw [rounds_succ]; go_wp2; go_end0; exact ⟨rfl, rfl⟩
theorem lookNumber_nil : NilC 137 2 (.bool true) := by
 intro b w hc
 go_enter Tryz.func137, Tryz.ntmps137
 go_wp2; refine wp_loop_rounds 1 ?_; rw [rounds_succ]; go_wp2; go_ret; exact ⟨rfl, rfl⟩
theorem fillWide_nil : NilC 71 3 (.tuple #[]) := by
 intro b w hc
 go_enter Tryz.func71, Tryz.ntmps71
 go_wp2; refine wp_loop_rounds 1 ?_; rw [rounds_succ]; go_wp2; go_end0; exact ⟨rfl, rfl⟩
theorem growWide_nil : NilC 104 3 (.tuple #[]) := by
 intro b w hc
 go_enter Tryz.func104, Tryz.ntmps104
 go_wp2; refine wp_loop_rounds 1 ?_; rw [rounds_succ]; go_wp2; go_end0; exact ⟨rfl, rfl⟩
theorem lookWide_nil : NilC 138 3 (.bool true) := by
 intro b w hc
 go_enter Tryz.func138, Tryz.ntmps138
 go_wp2; refine wp_loop_rounds 1 ?_; rw [rounds_succ]; go_wp2; go_ret; exact ⟨rfl, rfl⟩
theorem fillText_nil : NilC 72 4 (.tuple #[]) := by
 intro b w hc
 go_enter Tryz.func72, Tryz.ntmps72
 go_wp2; refine wp_loop_rounds 1 ?_; rw [rounds_succ]; go_wp2; go_end0; exact ⟨rfl, rfl⟩
theorem growText_nil : NilC 105 4 (.tuple #[]) := by
 intro b w hc
 go_enter Tryz.func105, Tryz.ntmps105
 go_wp2; refine wp_loop_rounds 1 ?_; rw [rounds_succ]; go_wp2; go_end0; exact ⟨rfl, rfl⟩
theorem lookText_nil : NilC 139 4 (.bool true) := by
 intro b w hc
 go_enter Tryz.func139, Tryz.ntmps139
 go_wp2; refine wp_loop_rounds 1 ?_; rw [rounds_succ]; go_wp2; go_ret; exact ⟨rfl, rfl⟩
theorem fillTerm_nil : NilC 73 5 (.tuple #[]) := by
 intro b w hc
 go_enter Tryz.func73, Tryz.ntmps73
 go_wp2; refine wp_loop_rounds 1 ?_; rw [rounds_succ]; go_wp2; go_end0; exact ⟨rfl, rfl⟩
theorem growTerm_nil : NilC 106 5 (.tuple #[]) := by
 intro b w hc
 go_enter Tryz.func106, Tryz.ntmps106
 go_wp2; refine wp_loop_rounds 1 ?_; rw [rounds_succ]; go_wp2; go_end0; exact ⟨rfl, rfl⟩
theorem lookTerm_nil : NilC 140 5 (.bool true) := by
 intro b w hc
 go_enter Tryz.func140, Tryz.ntmps140
 go_wp2; refine wp_loop_rounds 1 ?_; rw [rounds_succ]; go_wp2; go_ret; exact ⟨rfl, rfl⟩
theorem fillSeal_nil : NilC 74 6 (.tuple #[]) := by
 intro b w hc
 go_enter Tryz.func74, Tryz.ntmps74
 go_wp2; refine wp_loop_rounds 1 ?_; rw [rounds_succ]; go_wp2; go_end0; exact ⟨rfl, rfl⟩
theorem growSeal_nil : NilC 107 6 (.tuple #[]) := by
 intro b w hc
 go_enter Tryz.func107, Tryz.ntmps107
 go_wp2; refine wp_loop_rounds 1 ?_; rw [rounds_succ]; go_wp2; go_end0; exact ⟨rfl, rfl⟩
theorem lookSeal_nil : NilC 141 6 (.bool true) := by
 intro b w hc
 go_enter Tryz.func141, Tryz.ntmps141
 go_wp2; refine wp_loop_rounds 1 ?_; rw [rounds_succ]; go_wp2; go_ret; exact ⟨rfl, rfl⟩
theorem fillKey_nil : NilC 75 7 (.tuple #[]) := by
 intro b w hc
 go_enter Tryz.func75, Tryz.ntmps75
 go_wp2; refine wp_loop_rounds 1 ?_; rw [rounds_succ]; go_wp2; go_end0; exact ⟨rfl, rfl⟩
theorem growKey_nil : NilC 108 7 (.tuple #[]) := by
 intro b w hc
 go_enter Tryz.func108, Tryz.ntmps108
 go_wp2; refine wp_loop_rounds 1 ?_; rw [rounds_succ]; go_wp2; go_end0; exact ⟨rfl, rfl⟩
theorem lookKey_nil : NilC 142 7 (.bool true) := by
 intro b w hc
 go_enter Tryz.func142, Tryz.ntmps142
 go_wp2; refine wp_loop_rounds 1 ?_; rw [rounds_succ]; go_wp2; go_ret; exact ⟨rfl, rfl⟩
theorem fillAdd_nil : NilC 76 8 (.tuple #[]) := by
 intro b w hc
 go_enter Tryz.func76, Tryz.ntmps76
 go_wp2; refine wp_loop_rounds 1 ?_; rw [rounds_succ]; go_wp2; go_end0; exact ⟨rfl, rfl⟩
theorem growAdd_nil : NilC 109 8 (.tuple #[]) := by
 intro b w hc
 go_enter Tryz.func109, Tryz.ntmps109
 go_wp2; refine wp_loop_rounds 1 ?_; rw [rounds_succ]; go_wp2; go_end0; exact ⟨rfl, rfl⟩
theorem lookAdd_nil : NilC 143 8 (.bool true) := by
 intro b w hc
 go_enter Tryz.func143, Tryz.ntmps143
 go_wp2; refine wp_loop_rounds 1 ?_; rw [rounds_succ]; go_wp2; go_ret; exact ⟨rfl, rfl⟩
theorem fillJoin_nil : NilC 77 9 (.tuple #[]) := by
 intro b w hc
 go_enter Tryz.func77, Tryz.ntmps77
 go_wp2; refine wp_loop_rounds 1 ?_; rw [rounds_succ]; go_wp2; go_end0; exact ⟨rfl, rfl⟩
theorem growJoin_nil : NilC 110 9 (.tuple #[]) := by
 intro b w hc
 go_enter Tryz.func110, Tryz.ntmps110
 go_wp2; refine wp_loop_rounds 1 ?_; rw [rounds_succ]; go_wp2; go_end0; exact ⟨rfl, rfl⟩
theorem lookJoin_nil : NilC 144 9 (.bool true) := by
 intro b w hc
 go_enter Tryz.func144, Tryz.ntmps144
 go_wp2; refine wp_loop_rounds 1 ?_; rw [rounds_succ]; go_wp2; go_ret; exact ⟨rfl, rfl⟩
theorem fillPast_nil : NilC 78 10 (.tuple #[]) := by
 intro b w hc
 go_enter Tryz.func78, Tryz.ntmps78
 go_wp2; refine wp_loop_rounds 1 ?_; rw [rounds_succ]; go_wp2; go_end0; exact ⟨rfl, rfl⟩
theorem growPast_nil : NilC 111 10 (.tuple #[]) := by
 intro b w hc
 go_enter Tryz.func111, Tryz.ntmps111
 go_wp2; refine wp_loop_rounds 1 ?_; rw [rounds_succ]; go_wp2; go_end0; exact ⟨rfl, rfl⟩
theorem lookPast_nil : NilC 145 10 (.bool true) := by
 intro b w hc
 go_enter Tryz.func145, Tryz.ntmps145
 go_wp2; refine wp_loop_rounds 1 ?_; rw [rounds_succ]; go_wp2; go_ret; exact ⟨rfl, rfl⟩
theorem fillCard_nil : NilC 79 11 (.tuple #[]) := by
 intro b w hc
 go_enter Tryz.func79, Tryz.ntmps79
 go_wp2; refine wp_loop_rounds 1 ?_; rw [rounds_succ]; go_wp2; go_end0; exact ⟨rfl, rfl⟩
theorem growCard_nil : NilC 112 11 (.tuple #[]) := by
 intro b w hc
 go_enter Tryz.func112, Tryz.ntmps112
 go_wp2; refine wp_loop_rounds 1 ?_; rw [rounds_succ]; go_wp2; go_end0; exact ⟨rfl, rfl⟩
theorem lookCard_nil : NilC 146 11 (.bool true) := by
 intro b w hc
 go_enter Tryz.func146, Tryz.ntmps146
 go_wp2; refine wp_loop_rounds 1 ?_; rw [rounds_succ]; go_wp2; go_ret; exact ⟨rfl, rfl⟩
theorem fillGot_nil : NilC 80 12 (.tuple #[]) := by
 intro b w hc
 go_enter Tryz.func80, Tryz.ntmps80
 go_wp2; refine wp_loop_rounds 1 ?_; rw [rounds_succ]; go_wp2; go_end0; exact ⟨rfl, rfl⟩
theorem growGot_nil : NilC 113 12 (.tuple #[]) := by
 intro b w hc
 go_enter Tryz.func113, Tryz.ntmps113
 go_wp2; refine wp_loop_rounds 1 ?_; rw [rounds_succ]; go_wp2; go_end0; exact ⟨rfl, rfl⟩
theorem lookGot_nil : NilC 147 12 (.bool true) := by
 intro b w hc
 go_enter Tryz.func147, Tryz.ntmps147
 go_wp2; refine wp_loop_rounds 1 ?_; rw [rounds_succ]; go_wp2; go_ret; exact ⟨rfl, rfl⟩
theorem fillNote_nil : NilC 81 13 (.tuple #[]) := by
 intro b w hc
 go_enter Tryz.func81, Tryz.ntmps81
 go_wp2; refine wp_loop_rounds 1 ?_; rw [rounds_succ]; go_wp2; go_end0; exact ⟨rfl, rfl⟩
theorem growNote_nil : NilC 114 13 (.tuple #[]) := by
 intro b w hc
 go_enter Tryz.func114, Tryz.ntmps114
 go_wp2; refine wp_loop_rounds 1 ?_; rw [rounds_succ]; go_wp2; go_end0; exact ⟨rfl, rfl⟩
theorem lookNote_nil : NilC 148 13 (.bool true) := by
 intro b w hc
 go_enter Tryz.func148, Tryz.ntmps148
 go_wp2; refine wp_loop_rounds 1 ?_; rw [rounds_succ]; go_wp2; go_ret; exact ⟨rfl, rfl⟩
theorem fillAnswer_nil : NilC 82 14 (.tuple #[]) := by
 intro b w hc
 go_enter Tryz.func82, Tryz.ntmps82
 go_wp2; refine wp_loop_rounds 1 ?_; rw [rounds_succ]; go_wp2; go_end0; exact ⟨rfl, rfl⟩
theorem growAnswer_nil : NilC 115 14 (.tuple #[]) := by
 intro b w hc
 go_enter Tryz.func115, Tryz.ntmps115
 go_wp2; refine wp_loop_rounds 1 ?_; rw [rounds_succ]; go_wp2; go_end0; exact ⟨rfl, rfl⟩
theorem lookAnswer_nil : NilC 149 14 (.bool true) := by
 intro b w hc
 go_enter Tryz.func149, Tryz.ntmps149
 go_wp2; refine wp_loop_rounds 1 ?_; rw [rounds_succ]; go_wp2; go_ret; exact ⟨rfl, rfl⟩
theorem fillOutcome_nil : NilC 83 15 (.tuple #[]) := by
 intro b w hc
 go_enter Tryz.func83, Tryz.ntmps83
 go_wp2; refine wp_loop_rounds 1 ?_; rw [rounds_succ]; go_wp2; go_end0; exact ⟨rfl, rfl⟩
theorem growOutcome_nil : NilC 116 15 (.tuple #[]) := by
 intro b w hc
 go_enter Tryz.func116, Tryz.ntmps116
 go_wp2; refine wp_loop_rounds 1 ?_; rw [rounds_succ]; go_wp2; go_end0; exact ⟨rfl, rfl⟩
theorem lookOutcome_nil : NilC 150 15 (.bool true) := by
 intro b w hc
 go_enter Tryz.func150, Tryz.ntmps150
 go_wp2; refine wp_loop_rounds 1 ?_; rw [rounds_succ]; go_wp2; go_ret; exact ⟨rfl, rfl⟩
theorem fillFinding_nil : NilC 84 16 (.tuple #[]) := by
 intro b w hc
 go_enter Tryz.func84, Tryz.ntmps84
 go_wp2; refine wp_loop_rounds 1 ?_; rw [rounds_succ]; go_wp2; go_end0; exact ⟨rfl, rfl⟩
theorem growFinding_nil : NilC 117 16 (.tuple #[]) := by
 intro b w hc
 go_enter Tryz.func117, Tryz.ntmps117
 go_wp2; refine wp_loop_rounds 1 ?_; rw [rounds_succ]; go_wp2; go_end0; exact ⟨rfl, rfl⟩
theorem lookFinding_nil : NilC 151 16 (.bool true) := by
 intro b w hc
 go_enter Tryz.func151, Tryz.ntmps151
 go_wp2; refine wp_loop_rounds 1 ?_; rw [rounds_succ]; go_wp2; go_ret; exact ⟨rfl, rfl⟩
theorem fillStep_nil : NilC 85 17 (.tuple #[]) := by
 intro b w hc
 go_enter Tryz.func85, Tryz.ntmps85
 go_wp2; refine wp_loop_rounds 1 ?_; rw [rounds_succ]; go_wp2; go_end0; exact ⟨rfl, rfl⟩
theorem growStep_nil : NilC 118 17 (.tuple #[]) := by
 intro b w hc
 go_enter Tryz.func118, Tryz.ntmps118
 go_wp2; refine wp_loop_rounds 1 ?_; rw [rounds_succ]; go_wp2; go_end0; exact ⟨rfl, rfl⟩
theorem lookStep_nil : NilC 152 17 (.bool true) := by
 intro b w hc
 go_enter Tryz.func152, Tryz.ntmps152
 go_wp2; refine wp_loop_rounds 1 ?_; rw [rounds_succ]; go_wp2; go_ret; exact ⟨rfl, rfl⟩
theorem fillWrite_nil : NilC 86 18 (.tuple #[]) := by
 intro b w hc
 go_enter Tryz.func86, Tryz.ntmps86
 go_wp2; refine wp_loop_rounds 1 ?_; rw [rounds_succ]; go_wp2; go_end0; exact ⟨rfl, rfl⟩
theorem growWrite_nil : NilC 119 18 (.tuple #[]) := by
 intro b w hc
 go_enter Tryz.func119, Tryz.ntmps119
 go_wp2; refine wp_loop_rounds 1 ?_; rw [rounds_succ]; go_wp2; go_end0; exact ⟨rfl, rfl⟩
theorem lookWrite_nil : NilC 153 18 (.bool true) := by
 intro b w hc
 go_enter Tryz.func153, Tryz.ntmps153
 go_wp2; refine wp_loop_rounds 1 ?_; rw [rounds_succ]; go_wp2; go_ret; exact ⟨rfl, rfl⟩
theorem fillNode_nil : NilC 87 19 (.tuple #[]) := by
 intro b w hc
 go_enter Tryz.func87, Tryz.ntmps87
 go_wp2; refine wp_loop_rounds 1 ?_; rw [rounds_succ]; go_wp2; go_end0; exact ⟨rfl, rfl⟩
theorem growNode_nil : NilC 120 19 (.tuple #[]) := by
 intro b w hc
 go_enter Tryz.func120, Tryz.ntmps120
 go_wp2; refine wp_loop_rounds 1 ?_; rw [rounds_succ]; go_wp2; go_end0; exact ⟨rfl, rfl⟩
theorem lookNode_nil : NilC 154 19 (.bool true) := by
 intro b w hc
 go_enter Tryz.func154, Tryz.ntmps154
 go_wp2; refine wp_loop_rounds 1 ?_; rw [rounds_succ]; go_wp2; go_ret; exact ⟨rfl, rfl⟩
theorem fillTree_nil : NilC 88 20 (.tuple #[]) := by
 intro b w hc
 go_enter Tryz.func88, Tryz.ntmps88
 go_wp2; refine wp_loop_rounds 1 ?_; rw [rounds_succ]; go_wp2; go_end0; exact ⟨rfl, rfl⟩
theorem growTree_nil : NilC 121 20 (.tuple #[]) := by
 intro b w hc
 go_enter Tryz.func121, Tryz.ntmps121
 go_wp2; refine wp_loop_rounds 1 ?_; rw [rounds_succ]; go_wp2; go_end0; exact ⟨rfl, rfl⟩
theorem lookTree_nil : NilC 155 20 (.bool true) := by
 intro b w hc
 go_enter Tryz.func155, Tryz.ntmps155
 go_wp2; refine wp_loop_rounds 1 ?_; rw [rounds_succ]; go_wp2; go_ret; exact ⟨rfl, rfl⟩
theorem fillCommit_nil : NilC 89 21 (.tuple #[]) := by
 intro b w hc
 go_enter Tryz.func89, Tryz.ntmps89
 go_wp2; refine wp_loop_rounds 1 ?_; rw [rounds_succ]; go_wp2; go_end0; exact ⟨rfl, rfl⟩
theorem growCommit_nil : NilC 122 21 (.tuple #[]) := by
 intro b w hc
 go_enter Tryz.func122, Tryz.ntmps122
 go_wp2; refine wp_loop_rounds 1 ?_; rw [rounds_succ]; go_wp2; go_end0; exact ⟨rfl, rfl⟩
theorem lookCommit_nil : NilC 156 21 (.bool true) := by
 intro b w hc
 go_enter Tryz.func156, Tryz.ntmps156
 go_wp2; refine wp_loop_rounds 1 ?_; rw [rounds_succ]; go_wp2; go_ret; exact ⟨rfl, rfl⟩
theorem fillState_nil : NilC 90 22 (.tuple #[]) := by
 intro b w hc
 go_enter Tryz.func90, Tryz.ntmps90
 go_wp2; refine wp_loop_rounds 1 ?_; rw [rounds_succ]; go_wp2; go_end0; exact ⟨rfl, rfl⟩
theorem growState_nil : NilC 123 22 (.tuple #[]) := by
 intro b w hc
 go_enter Tryz.func123, Tryz.ntmps123
 go_wp2; refine wp_loop_rounds 1 ?_; rw [rounds_succ]; go_wp2; go_end0; exact ⟨rfl, rfl⟩
theorem lookState_nil : NilC 157 22 (.bool true) := by
 intro b w hc
 go_enter Tryz.func157, Tryz.ntmps157
 go_wp2; refine wp_loop_rounds 1 ?_; rw [rounds_succ]; go_wp2; go_ret; exact ⟨rfl, rfl⟩
theorem fillFace_nil : NilC 91 23 (.tuple #[]) := by
 intro b w hc
 go_enter Tryz.func91, Tryz.ntmps91
 go_wp2; refine wp_loop_rounds 1 ?_; rw [rounds_succ]; go_wp2; go_end0; exact ⟨rfl, rfl⟩
theorem growFace_nil : NilC 124 23 (.tuple #[]) := by
 intro b w hc
 go_enter Tryz.func124, Tryz.ntmps124
 go_wp2; refine wp_loop_rounds 1 ?_; rw [rounds_succ]; go_wp2; go_end0; exact ⟨rfl, rfl⟩
theorem lookFace_nil : NilC 158 23 (.bool true) := by
 intro b w hc
 go_enter Tryz.func158, Tryz.ntmps158
 go_wp2; refine wp_loop_rounds 1 ?_; rw [rounds_succ]; go_wp2; go_ret; exact ⟨rfl, rfl⟩
theorem fillRequest_nil : NilC 92 24 (.tuple #[]) := by
 intro b w hc
 go_enter Tryz.func92, Tryz.ntmps92
 go_wp2; refine wp_loop_rounds 1 ?_; rw [rounds_succ]; go_wp2; go_end0; exact ⟨rfl, rfl⟩
theorem growRequest_nil : NilC 125 24 (.tuple #[]) := by
 intro b w hc
 go_enter Tryz.func125, Tryz.ntmps125
 go_wp2; refine wp_loop_rounds 1 ?_; rw [rounds_succ]; go_wp2; go_end0; exact ⟨rfl, rfl⟩
theorem lookRequest_nil : NilC 159 24 (.bool true) := by
 intro b w hc
 go_enter Tryz.func159, Tryz.ntmps159
 go_wp2; refine wp_loop_rounds 1 ?_; rw [rounds_succ]; go_wp2; go_ret; exact ⟨rfl, rfl⟩
theorem fillMail_nil : NilC 93 25 (.tuple #[]) := by
 intro b w hc
 go_enter Tryz.func93, Tryz.ntmps93
 go_wp2; refine wp_loop_rounds 1 ?_; rw [rounds_succ]; go_wp2; go_end0; exact ⟨rfl, rfl⟩
theorem growMail_nil : NilC 126 25 (.tuple #[]) := by
 intro b w hc
 go_enter Tryz.func126, Tryz.ntmps126
 go_wp2; refine wp_loop_rounds 1 ?_; rw [rounds_succ]; go_wp2; go_end0; exact ⟨rfl, rfl⟩
theorem lookMail_nil : NilC 160 25 (.bool true) := by
 intro b w hc
 go_enter Tryz.func160, Tryz.ntmps160
 go_wp2; refine wp_loop_rounds 1 ?_; rw [rounds_succ]; go_wp2; go_ret; exact ⟨rfl, rfl⟩
theorem fillPending_nil : NilC 94 26 (.tuple #[]) := by
 intro b w hc
 go_enter Tryz.func94, Tryz.ntmps94
 go_wp2; refine wp_loop_rounds 1 ?_; rw [rounds_succ]; go_wp2; go_end0; exact ⟨rfl, rfl⟩
theorem growPending_nil : NilC 127 26 (.tuple #[]) := by
 intro b w hc
 go_enter Tryz.func127, Tryz.ntmps127
 go_wp2; refine wp_loop_rounds 1 ?_; rw [rounds_succ]; go_wp2; go_end0; exact ⟨rfl, rfl⟩
theorem lookPending_nil : NilC 161 26 (.bool true) := by
 intro b w hc
 go_enter Tryz.func161, Tryz.ntmps161
 go_wp2; refine wp_loop_rounds 1 ?_; rw [rounds_succ]; go_wp2; go_ret; exact ⟨rfl, rfl⟩
theorem fillFeed_nil : NilC 95 27 (.tuple #[]) := by
 intro b w hc
 go_enter Tryz.func95, Tryz.ntmps95
 go_wp2; refine wp_loop_rounds 1 ?_; rw [rounds_succ]; go_wp2; go_end0; exact ⟨rfl, rfl⟩
theorem growFeed_nil : NilC 128 27 (.tuple #[]) := by
 intro b w hc
 go_enter Tryz.func128, Tryz.ntmps128
 go_wp2; refine wp_loop_rounds 1 ?_; rw [rounds_succ]; go_wp2; go_end0; exact ⟨rfl, rfl⟩
theorem lookFeed_nil : NilC 162 27 (.bool true) := by
 intro b w hc
 go_enter Tryz.func162, Tryz.ntmps162
 go_wp2; refine wp_loop_rounds 1 ?_; rw [rounds_succ]; go_wp2; go_ret; exact ⟨rfl, rfl⟩
theorem fillLog_nil : NilC 96 28 (.tuple #[]) := by
 intro b w hc
 go_enter Tryz.func96, Tryz.ntmps96
 go_wp2; refine wp_loop_rounds 1 ?_; rw [rounds_succ]; go_wp2; go_end0; exact ⟨rfl, rfl⟩
theorem growLog_nil : NilC 129 28 (.tuple #[]) := by
 intro b w hc
 go_enter Tryz.func129, Tryz.ntmps129
 go_wp2; refine wp_loop_rounds 1 ?_; rw [rounds_succ]; go_wp2; go_end0; exact ⟨rfl, rfl⟩
theorem lookLog_nil : NilC 163 28 (.bool true) := by
 intro b w hc
 go_enter Tryz.func163, Tryz.ntmps163
 go_wp2; refine wp_loop_rounds 1 ?_; rw [rounds_succ]; go_wp2; go_ret; exact ⟨rfl, rfl⟩
theorem fillBox_nil : NilC 97 29 (.tuple #[]) := by
 intro b w hc
 go_enter Tryz.func97, Tryz.ntmps97
 go_wp2; refine wp_loop_rounds 1 ?_; rw [rounds_succ]; go_wp2; go_end0; exact ⟨rfl, rfl⟩
theorem growBox_nil : NilC 130 29 (.tuple #[]) := by
 intro b w hc
 go_enter Tryz.func130, Tryz.ntmps130
 go_wp2; refine wp_loop_rounds 1 ?_; rw [rounds_succ]; go_wp2; go_end0; exact ⟨rfl, rfl⟩
theorem lookBox_nil : NilC 164 29 (.bool true) := by
 intro b w hc
 go_enter Tryz.func164, Tryz.ntmps164
 go_wp2; refine wp_loop_rounds 1 ?_; rw [rounds_succ]; go_wp2; go_ret; exact ⟨rfl, rfl⟩
theorem fillEarly_nil : NilC 98 30 (.tuple #[]) := by
 intro b w hc
 go_enter Tryz.func98, Tryz.ntmps98
 go_wp2; refine wp_loop_rounds 1 ?_; rw [rounds_succ]; go_wp2; go_end0; exact ⟨rfl, rfl⟩
theorem growEarly_nil : NilC 131 30 (.tuple #[]) := by
 intro b w hc
 go_enter Tryz.func131, Tryz.ntmps131
 go_wp2; refine wp_loop_rounds 1 ?_; rw [rounds_succ]; go_wp2; go_end0; exact ⟨rfl, rfl⟩
theorem lookEarly_nil : NilC 165 30 (.bool true) := by
 intro b w hc
 go_enter Tryz.func165, Tryz.ntmps165
 go_wp2; refine wp_loop_rounds 1 ?_; rw [rounds_succ]; go_wp2; go_ret; exact ⟨rfl, rfl⟩
theorem fillLink_nil : NilC 99 31 (.tuple #[]) := by
 intro b w hc
 go_enter Tryz.func99, Tryz.ntmps99
 go_wp2; refine wp_loop_rounds 1 ?_; rw [rounds_succ]; go_wp2; go_end0; exact ⟨rfl, rfl⟩
theorem growLink_nil : NilC 132 31 (.tuple #[]) := by
 intro b w hc
 go_enter Tryz.func132, Tryz.ntmps132
 go_wp2; refine wp_loop_rounds 1 ?_; rw [rounds_succ]; go_wp2; go_end0; exact ⟨rfl, rfl⟩
theorem lookLink_nil : NilC 166 31 (.bool true) := by
 intro b w hc
 go_enter Tryz.func166, Tryz.ntmps166
 go_wp2; refine wp_loop_rounds 1 ?_; rw [rounds_succ]; go_wp2; go_ret; exact ⟨rfl, rfl⟩
theorem fillPacket_nil : NilC 100 32 (.tuple #[]) := by
 intro b w hc
 go_enter Tryz.func100, Tryz.ntmps100
 go_wp2; refine wp_loop_rounds 1 ?_; rw [rounds_succ]; go_wp2; go_end0; exact ⟨rfl, rfl⟩
theorem growPacket_nil : NilC 133 32 (.tuple #[]) := by
 intro b w hc
 go_enter Tryz.func133, Tryz.ntmps133
 go_wp2; refine wp_loop_rounds 1 ?_; rw [rounds_succ]; go_wp2; go_end0; exact ⟨rfl, rfl⟩
theorem lookPacket_nil : NilC 167 32 (.bool true) := by
 intro b w hc
 go_enter Tryz.func167, Tryz.ntmps167
 go_wp2; refine wp_loop_rounds 1 ?_; rw [rounds_succ]; go_wp2; go_ret; exact ⟨rfl, rfl⟩
theorem fillTermRow_nil : NilC 101 33 (.tuple #[]) := by
 intro b w hc
 go_enter Tryz.func101, Tryz.ntmps101
 go_wp2; refine wp_loop_rounds 1 ?_; rw [rounds_succ]; go_wp2; go_end0; exact ⟨rfl, rfl⟩
theorem growTermRow_nil : NilC 134 33 (.tuple #[]) := by
 intro b w hc
 go_enter Tryz.func134, Tryz.ntmps134
 go_wp2; refine wp_loop_rounds 1 ?_; rw [rounds_succ]; go_wp2; go_end0; exact ⟨rfl, rfl⟩
theorem lookTermRow_nil : NilC 168 33 (.bool true) := by
 intro b w hc
 go_enter Tryz.func168, Tryz.ntmps168
 go_wp2; refine wp_loop_rounds 1 ?_; rw [rounds_succ]; go_wp2; go_ret; exact ⟨rfl, rfl⟩
theorem fillNumberRow_nil : NilC 102 34 (.tuple #[]) := by
 intro b w hc
 go_enter Tryz.func102, Tryz.ntmps102
 go_wp2; refine wp_loop_rounds 1 ?_; rw [rounds_succ]; go_wp2; go_end0; exact ⟨rfl, rfl⟩
theorem growNumberRow_nil : NilC 135 34 (.tuple #[]) := by
 intro b w hc
 go_enter Tryz.func135, Tryz.ntmps135
 go_wp2; refine wp_loop_rounds 1 ?_; rw [rounds_succ]; go_wp2; go_end0; exact ⟨rfl, rfl⟩
theorem lookNumberRow_nil : NilC 169 34 (.bool true) := by
 intro b w hc
 go_enter Tryz.func169, Tryz.ntmps169
 go_wp2; refine wp_loop_rounds 1 ?_; rw [rounds_succ]; go_wp2; go_ret; exact ⟨rfl, rfl⟩
theorem bits_nil (b : Nat) (k : Int) (w : World) (hc : w.cell? ⟨b, 1, none⟩ = some (.slice none 0 0)) :
    Calls Tryz.prog 136 #[.pointer (some ⟨b, 0, none⟩), .int .u64 k] w fun e w' => e = .returned (.bool true) ∧ w' = w := by
 go_enter Tryz.func136, Tryz.ntmps136
 go_wp2
 refine wp_loop_rounds 1 ?_
 rw [rounds_succ]
 go_wp2
 refine wp_loop_rounds 1 ?_
 rw [rounds_succ]
 go_wp2
 refine wp_loop_rounds 1 ?_
 rw [rounds_succ]
 go_wp2
 go_ret
 exact ⟨rfl, rfl⟩
end Go.Proofs.YtedpljclnpiggaaGreatDoor
