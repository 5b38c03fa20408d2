/-
  A book of which nothing of a kind is held: look does nothing.
-/
import Derived.Test.YtmoakgkoahjijaaGreatDoorBookL
set_option linter.unusedVariables false
set_option linter.unusedSimpArgs false
namespace Go.Proofs.YtmoakgkoahjijaaGreatDoor
open Go.RowKit

theorem E_lookInt (b : Nat) (W : World) (h : W.cell? ⟨b, 1, none⟩ = some (.slice none 0 0)) : Calls Tryz.prog 105 #[.pointer (some ⟨b, 0, none⟩)] W fun e w' => e = .returned (.bool true) ∧ w' = W := by
  go_enter Tryz.func105, Tryz.ntmps105
  go_wp2
  go_loop [3] (fun i => i = .int .i64 0) (fun _ => 0)
  case atStart => rfl
  case round =>
    obtain rfl := hrel
    go_wp2
    go_ret
    exact ⟨rfl, rfl⟩
theorem E_lookKind (b : Nat) (W : World) (h : W.cell? ⟨b, 3, none⟩ = some (.slice none 0 0)) : Calls Tryz.prog 107 #[.pointer (some ⟨b, 0, none⟩)] W fun e w' => e = .returned (.bool true) ∧ w' = W := by
  go_enter Tryz.func107, Tryz.ntmps107
  go_wp2
  go_loop [3] (fun i => i = .int .i64 0) (fun _ => 0)
  case atStart => rfl
  case round =>
    obtain rfl := hrel
    go_wp2
    go_ret
    exact ⟨rfl, rfl⟩
theorem E_lookText (b : Nat) (W : World) (h : W.cell? ⟨b, 4, none⟩ = some (.slice none 0 0)) : Calls Tryz.prog 108 #[.pointer (some ⟨b, 0, none⟩)] W fun e w' => e = .returned (.bool true) ∧ w' = W := by
  go_enter Tryz.func108, Tryz.ntmps108
  go_wp2
  go_loop [3] (fun i => i = .int .i64 0) (fun _ => 0)
  case atStart => rfl
  case round =>
    obtain rfl := hrel
    go_wp2
    go_ret
    exact ⟨rfl, rfl⟩
theorem E_lookBlob (b : Nat) (W : World) (h : W.cell? ⟨b, 5, none⟩ = some (.slice none 0 0)) : Calls Tryz.prog 109 #[.pointer (some ⟨b, 0, none⟩)] W fun e w' => e = .returned (.bool true) ∧ w' = W := by
  go_enter Tryz.func109, Tryz.ntmps109
  go_wp2
  go_loop [3] (fun i => i = .int .i64 0) (fun _ => 0)
  case atStart => rfl
  case round =>
    obtain rfl := hrel
    go_wp2
    go_ret
    exact ⟨rfl, rfl⟩
theorem E_lookNumber (b : Nat) (W : World) (h : W.cell? ⟨b, 6, none⟩ = some (.slice none 0 0)) : Calls Tryz.prog 110 #[.pointer (some ⟨b, 0, none⟩)] W fun e w' => e = .returned (.bool true) ∧ w' = W := by
  go_enter Tryz.func110, Tryz.ntmps110
  go_wp2
  go_loop [3] (fun i => i = .int .i64 0) (fun _ => 0)
  case atStart => rfl
  case round =>
    obtain rfl := hrel
    go_wp2
    go_ret
    exact ⟨rfl, rfl⟩
theorem E_lookWord (b : Nat) (W : World) (h : W.cell? ⟨b, 7, none⟩ = some (.slice none 0 0)) : Calls Tryz.prog 111 #[.pointer (some ⟨b, 0, none⟩)] W fun e w' => e = .returned (.bool true) ∧ w' = W := by
  go_enter Tryz.func111, Tryz.ntmps111
  go_wp2
  go_loop [3] (fun i => i = .int .i64 0) (fun _ => 0)
  case atStart => rfl
  case round =>
    obtain rfl := hrel
    go_wp2
    go_ret
    exact ⟨rfl, rfl⟩
theorem E_lookField (b : Nat) (W : World) (h : W.cell? ⟨b, 8, none⟩ = some (.slice none 0 0)) : Calls Tryz.prog 112 #[.pointer (some ⟨b, 0, none⟩)] W fun e w' => e = .returned (.bool true) ∧ w' = W := by
  go_enter Tryz.func112, Tryz.ntmps112
  go_wp2
  go_loop [3] (fun i => i = .int .i64 0) (fun _ => 0)
  case atStart => rfl
  case round =>
    obtain rfl := hrel
    go_wp2
    go_ret
    exact ⟨rfl, rfl⟩
theorem E_lookMatch (b : Nat) (W : World) (h : W.cell? ⟨b, 9, none⟩ = some (.slice none 0 0)) : Calls Tryz.prog 113 #[.pointer (some ⟨b, 0, none⟩)] W fun e w' => e = .returned (.bool true) ∧ w' = W := by
  go_enter Tryz.func113, Tryz.ntmps113
  go_wp2
  go_loop [3] (fun i => i = .int .i64 0) (fun _ => 0)
  case atStart => rfl
  case round =>
    obtain rfl := hrel
    go_wp2
    go_ret
    exact ⟨rfl, rfl⟩
theorem E_lookArr (b : Nat) (W : World) (h : W.cell? ⟨b, 10, none⟩ = some (.slice none 0 0)) : Calls Tryz.prog 114 #[.pointer (some ⟨b, 0, none⟩)] W fun e w' => e = .returned (.bool true) ∧ w' = W := by
  go_enter Tryz.func114, Tryz.ntmps114
  go_wp2
  go_loop [3] (fun i => i = .int .i64 0) (fun _ => 0)
  case atStart => rfl
  case round =>
    obtain rfl := hrel
    go_wp2
    go_ret
    exact ⟨rfl, rfl⟩
theorem E_lookCase (b : Nat) (W : World) (h : W.cell? ⟨b, 11, none⟩ = some (.slice none 0 0)) : Calls Tryz.prog 115 #[.pointer (some ⟨b, 0, none⟩)] W fun e w' => e = .returned (.bool true) ∧ w' = W := by
  go_enter Tryz.func115, Tryz.ntmps115
  go_wp2
  go_loop [3] (fun i => i = .int .i64 0) (fun _ => 0)
  case atStart => rfl
  case round =>
    obtain rfl := hrel
    go_wp2
    go_ret
    exact ⟨rfl, rfl⟩
theorem E_lookJump (b : Nat) (W : World) (h : W.cell? ⟨b, 12, none⟩ = some (.slice none 0 0)) : Calls Tryz.prog 116 #[.pointer (some ⟨b, 0, none⟩)] W fun e w' => e = .returned (.bool true) ∧ w' = W := by
  go_enter Tryz.func116, Tryz.ntmps116
  go_wp2
  go_loop [3] (fun i => i = .int .i64 0) (fun _ => 0)
  case atStart => rfl
  case round =>
    obtain rfl := hrel
    go_wp2
    go_ret
    exact ⟨rfl, rfl⟩
theorem E_lookExpr (b : Nat) (W : World) (h : W.cell? ⟨b, 13, none⟩ = some (.slice none 0 0)) : Calls Tryz.prog 117 #[.pointer (some ⟨b, 0, none⟩)] W fun e w' => e = .returned (.bool true) ∧ w' = W := by
  go_enter Tryz.func117, Tryz.ntmps117
  go_wp2
  go_loop [3] (fun i => i = .int .i64 0) (fun _ => 0)
  case atStart => rfl
  case round =>
    obtain rfl := hrel
    go_wp2
    go_ret
    exact ⟨rfl, rfl⟩
theorem E_lookStmt (b : Nat) (W : World) (h : W.cell? ⟨b, 14, none⟩ = some (.slice none 0 0)) : Calls Tryz.prog 118 #[.pointer (some ⟨b, 0, none⟩)] W fun e w' => e = .returned (.bool true) ∧ w' = W := by
  go_enter Tryz.func118, Tryz.ntmps118
  go_wp2
  go_loop [3] (fun i => i = .int .i64 0) (fun _ => 0)
  case atStart => rfl
  case round =>
    obtain rfl := hrel
    go_wp2
    go_ret
    exact ⟨rfl, rfl⟩
theorem E_lookState (b : Nat) (W : World) (h : W.cell? ⟨b, 15, none⟩ = some (.slice none 0 0)) : Calls Tryz.prog 119 #[.pointer (some ⟨b, 0, none⟩)] W fun e w' => e = .returned (.bool true) ∧ w' = W := by
  go_enter Tryz.func119, Tryz.ntmps119
  go_wp2
  go_loop [3] (fun i => i = .int .i64 0) (fun _ => 0)
  case atStart => rfl
  case round =>
    obtain rfl := hrel
    go_wp2
    go_ret
    exact ⟨rfl, rfl⟩
theorem E_lookKey (b : Nat) (W : World) (h : W.cell? ⟨b, 16, none⟩ = some (.slice none 0 0)) : Calls Tryz.prog 120 #[.pointer (some ⟨b, 0, none⟩)] W fun e w' => e = .returned (.bool true) ∧ w' = W := by
  go_enter Tryz.func120, Tryz.ntmps120
  go_wp2
  go_loop [3] (fun i => i = .int .i64 0) (fun _ => 0)
  case atStart => rfl
  case round =>
    obtain rfl := hrel
    go_wp2
    go_ret
    exact ⟨rfl, rfl⟩
theorem E_lookDecl (b : Nat) (W : World) (h : W.cell? ⟨b, 17, none⟩ = some (.slice none 0 0)) : Calls Tryz.prog 121 #[.pointer (some ⟨b, 0, none⟩)] W fun e w' => e = .returned (.bool true) ∧ w' = W := by
  go_enter Tryz.func121, Tryz.ntmps121
  go_wp2
  go_loop [3] (fun i => i = .int .i64 0) (fun _ => 0)
  case atStart => rfl
  case round =>
    obtain rfl := hrel
    go_wp2
    go_ret
    exact ⟨rfl, rfl⟩
theorem E_lookEntry (b : Nat) (W : World) (h : W.cell? ⟨b, 18, none⟩ = some (.slice none 0 0)) : Calls Tryz.prog 122 #[.pointer (some ⟨b, 0, none⟩)] W fun e w' => e = .returned (.bool true) ∧ w' = W := by
  go_enter Tryz.func122, Tryz.ntmps122
  go_wp2
  go_loop [3] (fun i => i = .int .i64 0) (fun _ => 0)
  case atStart => rfl
  case round =>
    obtain rfl := hrel
    go_wp2
    go_ret
    exact ⟨rfl, rfl⟩
theorem E_lookGroup (b : Nat) (W : World) (h : W.cell? ⟨b, 19, none⟩ = some (.slice none 0 0)) : Calls Tryz.prog 123 #[.pointer (some ⟨b, 0, none⟩)] W fun e w' => e = .returned (.bool true) ∧ w' = W := by
  go_enter Tryz.func123, Tryz.ntmps123
  go_wp2
  go_loop [3] (fun i => i = .int .i64 0) (fun _ => 0)
  case atStart => rfl
  case round =>
    obtain rfl := hrel
    go_wp2
    go_ret
    exact ⟨rfl, rfl⟩
theorem E_lookHead (b : Nat) (W : World) (h : W.cell? ⟨b, 20, none⟩ = some (.slice none 0 0)) : Calls Tryz.prog 124 #[.pointer (some ⟨b, 0, none⟩)] W fun e w' => e = .returned (.bool true) ∧ w' = W := by
  go_enter Tryz.func124, Tryz.ntmps124
  go_wp2
  go_loop [3] (fun i => i = .int .i64 0) (fun _ => 0)
  case atStart => rfl
  case round =>
    obtain rfl := hrel
    go_wp2
    go_ret
    exact ⟨rfl, rfl⟩
theorem E_lookNode (b : Nat) (W : World) (h : W.cell? ⟨b, 21, none⟩ = some (.slice none 0 0)) : Calls Tryz.prog 125 #[.pointer (some ⟨b, 0, none⟩)] W fun e w' => e = .returned (.bool true) ∧ w' = W := by
  go_enter Tryz.func125, Tryz.ntmps125
  go_wp2
  go_loop [3] (fun i => i = .int .i64 0) (fun _ => 0)
  case atStart => rfl
  case round =>
    obtain rfl := hrel
    go_wp2
    go_ret
    exact ⟨rfl, rfl⟩
theorem E_lookAct (b : Nat) (W : World) (h : W.cell? ⟨b, 22, none⟩ = some (.slice none 0 0)) : Calls Tryz.prog 126 #[.pointer (some ⟨b, 0, none⟩)] W fun e w' => e = .returned (.bool true) ∧ w' = W := by
  go_enter Tryz.func126, Tryz.ntmps126
  go_wp2
  go_loop [3] (fun i => i = .int .i64 0) (fun _ => 0)
  case atStart => rfl
  case round =>
    obtain rfl := hrel
    go_wp2
    go_ret
    exact ⟨rfl, rfl⟩
theorem E_lookTable (b : Nat) (W : World) (h : W.cell? ⟨b, 23, none⟩ = some (.slice none 0 0)) : Calls Tryz.prog 127 #[.pointer (some ⟨b, 0, none⟩)] W fun e w' => e = .returned (.bool true) ∧ w' = W := by
  go_enter Tryz.func127, Tryz.ntmps127
  go_wp2
  go_loop [3] (fun i => i = .int .i64 0) (fun _ => 0)
  case atStart => rfl
  case round =>
    obtain rfl := hrel
    go_wp2
    go_ret
    exact ⟨rfl, rfl⟩
theorem E_lookIns (b : Nat) (W : World) (h : W.cell? ⟨b, 24, none⟩ = some (.slice none 0 0)) : Calls Tryz.prog 128 #[.pointer (some ⟨b, 0, none⟩)] W fun e w' => e = .returned (.bool true) ∧ w' = W := by
  go_enter Tryz.func128, Tryz.ntmps128
  go_wp2
  go_loop [3] (fun i => i = .int .i64 0) (fun _ => 0)
  case atStart => rfl
  case round =>
    obtain rfl := hrel
    go_wp2
    go_ret
    exact ⟨rfl, rfl⟩
theorem E_lookEffect (b : Nat) (W : World) (h : W.cell? ⟨b, 25, none⟩ = some (.slice none 0 0)) : Calls Tryz.prog 129 #[.pointer (some ⟨b, 0, none⟩)] W fun e w' => e = .returned (.bool true) ∧ w' = W := by
  go_enter Tryz.func129, Tryz.ntmps129
  go_wp2
  go_loop [3] (fun i => i = .int .i64 0) (fun _ => 0)
  case atStart => rfl
  case round =>
    obtain rfl := hrel
    go_wp2
    go_ret
    exact ⟨rfl, rfl⟩
theorem E_lookUpdate (b : Nat) (W : World) (h : W.cell? ⟨b, 26, none⟩ = some (.slice none 0 0)) : Calls Tryz.prog 130 #[.pointer (some ⟨b, 0, none⟩)] W fun e w' => e = .returned (.bool true) ∧ w' = W := by
  go_enter Tryz.func130, Tryz.ntmps130
  go_wp2
  go_loop [3] (fun i => i = .int .i64 0) (fun _ => 0)
  case atStart => rfl
  case round =>
    obtain rfl := hrel
    go_wp2
    go_ret
    exact ⟨rfl, rfl⟩
theorem E_lookEvent (b : Nat) (W : World) (h : W.cell? ⟨b, 27, none⟩ = some (.slice none 0 0)) : Calls Tryz.prog 131 #[.pointer (some ⟨b, 0, none⟩)] W fun e w' => e = .returned (.bool true) ∧ w' = W := by
  go_enter Tryz.func131, Tryz.ntmps131
  go_wp2
  go_loop [3] (fun i => i = .int .i64 0) (fun _ => 0)
  case atStart => rfl
  case round =>
    obtain rfl := hrel
    go_wp2
    go_ret
    exact ⟨rfl, rfl⟩
theorem E_lookOut (b : Nat) (W : World) (h : W.cell? ⟨b, 28, none⟩ = some (.slice none 0 0)) : Calls Tryz.prog 132 #[.pointer (some ⟨b, 0, none⟩)] W fun e w' => e = .returned (.bool true) ∧ w' = W := by
  go_enter Tryz.func132, Tryz.ntmps132
  go_wp2
  go_loop [3] (fun i => i = .int .i64 0) (fun _ => 0)
  case atStart => rfl
  case round =>
    obtain rfl := hrel
    go_wp2
    go_ret
    exact ⟨rfl, rfl⟩
theorem E_lookRow (b : Nat) (W : World) (h : W.cell? ⟨b, 29, none⟩ = some (.slice none 0 0)) : Calls Tryz.prog 133 #[.pointer (some ⟨b, 0, none⟩)] W fun e w' => e = .returned (.bool true) ∧ w' = W := by
  go_enter Tryz.func133, Tryz.ntmps133
  go_wp2
  go_loop [3] (fun i => i = .int .i64 0) (fun _ => 0)
  case atStart => rfl
  case round =>
    obtain rfl := hrel
    go_wp2
    go_ret
    exact ⟨rfl, rfl⟩
theorem E_lookArray (b : Nat) (W : World) (h : W.cell? ⟨b, 30, none⟩ = some (.slice none 0 0)) : Calls Tryz.prog 134 #[.pointer (some ⟨b, 0, none⟩)] W fun e w' => e = .returned (.bool true) ∧ w' = W := by
  go_enter Tryz.func134, Tryz.ntmps134
  go_wp2
  go_loop [3] (fun i => i = .int .i64 0) (fun _ => 0)
  case atStart => rfl
  case round =>
    obtain rfl := hrel
    go_wp2
    go_ret
    exact ⟨rfl, rfl⟩
end Go.Proofs.YtmoakgkoahjijaaGreatDoor
