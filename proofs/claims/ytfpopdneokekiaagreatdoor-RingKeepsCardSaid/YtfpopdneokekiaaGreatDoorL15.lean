/-
Walk: flatLongs of rows that lie apart.
-/
import Derived.Test.YtfpopdneokekiaaGreatDoorL12
import Derived.Deep.QuietTactic
import Derived.BigQuiet
import Derived.Deep.RegionHeld3
import Derived.Lib.Hide
set_option linter.unusedVariables false
set_option linter.unusedSimpArgs false
namespace Go.Proofs.YtfpopdneokekiaaGreatDoor
section
open Go.RowKit
theorem info_Ints : (Tryz.prog.info? 147).map (fun i=>(i.zero,i.size,i.bytes)) = some (some (.slice none 0 0),1,24):=by kernel_rfl
set_option maxRecDepth 100000 in
set_option maxHeartbeats 1000000 in
theorem flatInts_nil (w : World) : Calls Tryz.prog 70 #[.slice none 0 0] w fun e w'=>e = .returned (.bool true) /\ Below w.heap.size w w':=by
 obtain ⟨i0,hi0,hz0,hz1,hz2⟩:=info_parts info_Ints
 go_enter Tryz.func70,Tryz.ntmps70
 go_wp2_with fail
 go_loop [3] (fun iv=>iv = .int .i64 0) (fun _=>0)
 case atStart=>rfl
 case round =>
  obtain rfl:=hrel
  go_wp2_with (refine wpList_make_full _ rfl (.tmp 41) (.tmp 41) 68 rfl w.heap.size 147 i0 _ 1 Tryz.underlying68 hi0 hz0 hz1 .i64 .i64 _ _ 0 rfl rfl rfl rfl (by rw [hz2]; omega) (by simp only [maxLen]; omega) (Nat.le_refl _) ?_; intro w1 hown hg; have HB:=Hd ((Below.refl w.heap.size w).grown hg (Nat.le_refl _) (fun k hk=>by cases hk)); clear hown hg)
  go_loop [6] (fun iv=>iv = .int .i64 0) (fun _=>0)
  case atStart=>rfl
  case round =>
   obtain rfl:=hrel
   go_wp2_with fail
   go_loop [9] (fun iv=>iv = .int .i64 0) (fun _=>0)
   case atStart=>rfl
   case round =>
    obtain rfl:=hrel
    go_wp2_with fail
    go_loop [11] (fun iv=>iv = .int .i64 0) (fun _=>0)
    case atStart=>rfl
    case round =>
     obtain rfl:=hrel
     go_wp2_with fail
     go_loop [14] (fun iv=>iv = .int .i64 0) (fun _=>0)
     case atStart=>rfl
     case round =>
      obtain rfl:=hrel
      go_wp2_with fail
      go_ret
      exact ⟨rfl,HB.out⟩
theorem info_Texts : (Tryz.prog.info? 148).map (fun i=>(i.zero,i.size,i.bytes)) = some (some (.slice none 0 0),1,24):=by kernel_rfl
set_option maxRecDepth 100000 in
set_option maxHeartbeats 1000000 in
theorem flatTexts_nil (w : World) : Calls Tryz.prog 72 #[.slice none 0 0] w fun e w'=>e = .returned (.bool true) /\ Below w.heap.size w w':=by
 obtain ⟨i0,hi0,hz0,hz1,hz2⟩:=info_parts info_Texts
 go_enter Tryz.func72,Tryz.ntmps72
 go_wp2_with fail
 go_loop [3] (fun iv=>iv = .int .i64 0) (fun _=>0)
 case atStart=>rfl
 case round =>
  obtain rfl:=hrel
  go_wp2_with (refine wpList_make_full _ rfl (.tmp 41) (.tmp 41) 69 rfl w.heap.size 148 i0 _ 1 Tryz.underlying69 hi0 hz0 hz1 .i64 .i64 _ _ 0 rfl rfl rfl rfl (by rw [hz2]; omega) (by simp only [maxLen]; omega) (Nat.le_refl _) ?_; intro w1 hown hg; have HB:=Hd ((Below.refl w.heap.size w).grown hg (Nat.le_refl _) (fun k hk=>by cases hk)); clear hown hg)
  go_loop [6] (fun iv=>iv = .int .i64 0) (fun _=>0)
  case atStart=>rfl
  case round =>
   obtain rfl:=hrel
   go_wp2_with fail
   go_loop [9] (fun iv=>iv = .int .i64 0) (fun _=>0)
   case atStart=>rfl
   case round =>
    obtain rfl:=hrel
    go_wp2_with fail
    go_loop [11] (fun iv=>iv = .int .i64 0) (fun _=>0)
    case atStart=>rfl
    case round =>
     obtain rfl:=hrel
     go_wp2_with fail
     go_loop [14] (fun iv=>iv = .int .i64 0) (fun _=>0)
     case atStart=>rfl
     case round =>
      obtain rfl:=hrel
      go_wp2_with fail
      go_ret
      exact ⟨rfl,HB.out⟩
theorem info_Bytes : (Tryz.prog.info? 150).map (fun i=>(i.zero,i.size,i.bytes)) = some (some (.slice none 0 0),1,24):=by kernel_rfl
set_option maxRecDepth 100000 in
set_option maxHeartbeats 1000000 in
theorem flatBytes_nil (w : World) : Calls Tryz.prog 73 #[.slice none 0 0] w fun e w'=>e = .returned (.bool true) /\ Below w.heap.size w w':=by
 obtain ⟨i0,hi0,hz0,hz1,hz2⟩:=info_parts info_Bytes
 go_enter Tryz.func73,Tryz.ntmps73
 go_wp2_with fail
 go_loop [3] (fun iv=>iv = .int .i64 0) (fun _=>0)
 case atStart=>rfl
 case round =>
  obtain rfl:=hrel
  go_wp2_with (refine wpList_make_full _ rfl (.tmp 41) (.tmp 41) 70 rfl w.heap.size 150 i0 _ 1 Tryz.underlying70 hi0 hz0 hz1 .i64 .i64 _ _ 0 rfl rfl rfl rfl (by rw [hz2]; omega) (by simp only [maxLen]; omega) (Nat.le_refl _) ?_; intro w1 hown hg; have HB:=Hd ((Below.refl w.heap.size w).grown hg (Nat.le_refl _) (fun k hk=>by cases hk)); clear hown hg)
  go_loop [6] (fun iv=>iv = .int .i64 0) (fun _=>0)
  case atStart=>rfl
  case round =>
   obtain rfl:=hrel
   go_wp2_with fail
   go_loop [9] (fun iv=>iv = .int .i64 0) (fun _=>0)
   case atStart=>rfl
   case round =>
    obtain rfl:=hrel
    go_wp2_with fail
    go_loop [11] (fun iv=>iv = .int .i64 0) (fun _=>0)
    case atStart=>rfl
    case round =>
     obtain rfl:=hrel
     go_wp2_with fail
     go_loop [14] (fun iv=>iv = .int .i64 0) (fun _=>0)
     case atStart=>rfl
     case round =>
      obtain rfl:=hrel
      go_wp2_with fail
      go_ret
      exact ⟨rfl,HB.out⟩
theorem info_Reals : (Tryz.prog.info? 54).map (fun i=>(i.zero,i.size,i.bytes)) = some (some (.slice none 0 0),1,24):=by kernel_rfl
set_option maxRecDepth 100000 in
set_option maxHeartbeats 1000000 in
theorem flatReals_nil (w : World) : Calls Tryz.prog 74 #[.slice none 0 0] w fun e w'=>e = .returned (.bool true) /\ Below w.heap.size w w':=by
 obtain ⟨i0,hi0,hz0,hz1,hz2⟩:=info_parts info_Reals
 go_enter Tryz.func74,Tryz.ntmps74
 go_wp2_with fail
 go_loop [3] (fun iv=>iv = .int .i64 0) (fun _=>0)
 case atStart=>rfl
 case round =>
  obtain rfl:=hrel
  go_wp2_with (refine wpList_make_full _ rfl (.tmp 42) (.tmp 42) 71 rfl w.heap.size 54 i0 _ 1 Tryz.underlying71 hi0 hz0 hz1 .i64 .i64 _ _ 0 rfl rfl rfl rfl (by rw [hz2]; omega) (by simp only [maxLen]; omega) (Nat.le_refl _) ?_; intro w1 hown hg; have HB:=Hd ((Below.refl w.heap.size w).grown hg (Nat.le_refl _) (fun k hk=>by cases hk)); clear hown hg)
  go_loop [6] (fun iv=>iv = .int .i64 0) (fun _=>0)
  case atStart=>rfl
  case round =>
   obtain rfl:=hrel
   go_wp2_with fail
   go_loop [9] (fun iv=>iv = .int .i64 0) (fun _=>0)
   case atStart=>rfl
   case round =>
    obtain rfl:=hrel
    go_wp2_with fail
    go_loop [11] (fun iv=>iv = .int .i64 0) (fun _=>0)
    case atStart=>rfl
    case round =>
     obtain rfl:=hrel
     go_wp2_with fail
     go_loop [14] (fun iv=>iv = .int .i64 0) (fun _=>0)
     case atStart=>rfl
     case round =>
      obtain rfl:=hrel
      go_wp2_with fail
      go_ret
      exact ⟨rfl,HB.out⟩
theorem info_Rows : (Tryz.prog.info? 58).map (fun i=>(i.zero,i.size,i.bytes)) = some (some (.slice none 0 0),1,24):=by kernel_rfl
set_option maxRecDepth 100000 in
set_option maxHeartbeats 1000000 in
theorem flatRows_nil (w : World) : Calls Tryz.prog 75 #[.slice none 0 0] w fun e w'=>e = .returned (.bool true) /\ Below w.heap.size w w':=by
 obtain ⟨i0,hi0,hz0,hz1,hz2⟩:=info_parts info_Rows
 go_enter Tryz.func75,Tryz.ntmps75
 go_wp2_with fail
 go_loop [3] (fun iv=>iv = .int .i64 0) (fun _=>0)
 case atStart=>rfl
 case round =>
  obtain rfl:=hrel
  go_wp2_with (refine wpList_make_full _ rfl (.tmp 43) (.tmp 43) 72 rfl w.heap.size 58 i0 _ 1 Tryz.underlying72 hi0 hz0 hz1 .i64 .i64 _ _ 0 rfl rfl rfl rfl (by rw [hz2]; omega) (by simp only [maxLen]; omega) (Nat.le_refl _) ?_; intro w1 hown hg; have HB:=Hd ((Below.refl w.heap.size w).grown hg (Nat.le_refl _) (fun k hk=>by cases hk)); clear hown hg)
  go_loop [6] (fun iv=>iv = .int .i64 0) (fun _=>0)
  case atStart=>rfl
  case round =>
   obtain rfl:=hrel
   go_wp2_with fail
   go_loop [9] (fun iv=>iv = .int .i64 0) (fun _=>0)
   case atStart=>rfl
   case round =>
    obtain rfl:=hrel
    go_wp2_with fail
    go_loop [11] (fun iv=>iv = .int .i64 0) (fun _=>0)
    case atStart=>rfl
    case round =>
     obtain rfl:=hrel
     go_wp2_with fail
     go_loop [14] (fun iv=>iv = .int .i64 0) (fun _=>0)
     case atStart=>rfl
     case round =>
      obtain rfl:=hrel
      go_wp2_with fail
      go_ret
      exact ⟨rfl,HB.out⟩
theorem info_Wholes : (Tryz.prog.info? 152).map (fun i=>(i.zero,i.size,i.bytes)) = some (some (.slice none 0 0),1,24):=by kernel_rfl
set_option maxRecDepth 100000 in
set_option maxHeartbeats 1000000 in
theorem flatWholes_nil (w : World) : Calls Tryz.prog 76 #[.slice none 0 0] w fun e w'=>e = .returned (.bool true) /\ Below w.heap.size w w':=by
 obtain ⟨i0,hi0,hz0,hz1,hz2⟩:=info_parts info_Wholes
 go_enter Tryz.func76,Tryz.ntmps76
 go_wp2_with fail
 go_loop [3] (fun iv=>iv = .int .i64 0) (fun _=>0)
 case atStart=>rfl
 case round =>
  obtain rfl:=hrel
  go_wp2_with (refine wpList_make_full _ rfl (.tmp 41) (.tmp 41) 73 rfl w.heap.size 152 i0 _ 1 Tryz.underlying73 hi0 hz0 hz1 .i64 .i64 _ _ 0 rfl rfl rfl rfl (by rw [hz2]; omega) (by simp only [maxLen]; omega) (Nat.le_refl _) ?_; intro w1 hown hg; have HB:=Hd ((Below.refl w.heap.size w).grown hg (Nat.le_refl _) (fun k hk=>by cases hk)); clear hown hg)
  go_loop [6] (fun iv=>iv = .int .i64 0) (fun _=>0)
  case atStart=>rfl
  case round =>
   obtain rfl:=hrel
   go_wp2_with fail
   go_loop [9] (fun iv=>iv = .int .i64 0) (fun _=>0)
   case atStart=>rfl
   case round =>
    obtain rfl:=hrel
    go_wp2_with fail
    go_loop [11] (fun iv=>iv = .int .i64 0) (fun _=>0)
    case atStart=>rfl
    case round =>
     obtain rfl:=hrel
     go_wp2_with fail
     go_loop [14] (fun iv=>iv = .int .i64 0) (fun _=>0)
     case atStart=>rfl
     case round =>
      obtain rfl:=hrel
      go_wp2_with fail
      go_ret
      exact ⟨rfl,HB.out⟩
theorem info_Dyads : (Tryz.prog.info? 157).map (fun i=>(i.zero,i.size,i.bytes)) = some (some (.slice none 0 0),1,24):=by kernel_rfl
set_option maxRecDepth 100000 in
set_option maxHeartbeats 1000000 in
theorem flatDyads_nil (w : World) : Calls Tryz.prog 77 #[.slice none 0 0] w fun e w'=>e = .returned (.bool true) /\ Below w.heap.size w w':=by
 obtain ⟨i0,hi0,hz0,hz1,hz2⟩:=info_parts info_Dyads
 go_enter Tryz.func77,Tryz.ntmps77
 go_wp2_with fail
 go_loop [3] (fun iv=>iv = .int .i64 0) (fun _=>0)
 case atStart=>rfl
 case round =>
  obtain rfl:=hrel
  go_wp2_with (refine wpList_make_full _ rfl (.tmp 41) (.tmp 41) 74 rfl w.heap.size 157 i0 _ 1 Tryz.underlying74 hi0 hz0 hz1 .i64 .i64 _ _ 0 rfl rfl rfl rfl (by rw [hz2]; omega) (by simp only [maxLen]; omega) (Nat.le_refl _) ?_; intro w1 hown hg; have HB:=Hd ((Below.refl w.heap.size w).grown hg (Nat.le_refl _) (fun k hk=>by cases hk)); clear hown hg)
  go_loop [6] (fun iv=>iv = .int .i64 0) (fun _=>0)
  case atStart=>rfl
  case round =>
   obtain rfl:=hrel
   go_wp2_with fail
   go_loop [9] (fun iv=>iv = .int .i64 0) (fun _=>0)
   case atStart=>rfl
   case round =>
    obtain rfl:=hrel
    go_wp2_with fail
    go_loop [11] (fun iv=>iv = .int .i64 0) (fun _=>0)
    case atStart=>rfl
    case round =>
     obtain rfl:=hrel
     go_wp2_with fail
     go_loop [14] (fun iv=>iv = .int .i64 0) (fun _=>0)
     case atStart=>rfl
     case round =>
      obtain rfl:=hrel
      go_wp2_with fail
      go_ret
      exact ⟨rfl,HB.out⟩
theorem info_Gaps : (Tryz.prog.info? 161).map (fun i=>(i.zero,i.size,i.bytes)) = some (some (.slice none 0 0),1,24):=by kernel_rfl
set_option maxRecDepth 100000 in
set_option maxHeartbeats 1000000 in
theorem flatGaps_nil (w : World) : Calls Tryz.prog 78 #[.slice none 0 0] w fun e w'=>e = .returned (.bool true) /\ Below w.heap.size w w':=by
 obtain ⟨i0,hi0,hz0,hz1,hz2⟩:=info_parts info_Gaps
 go_enter Tryz.func78,Tryz.ntmps78
 go_wp2_with fail
 go_loop [3] (fun iv=>iv = .int .i64 0) (fun _=>0)
 case atStart=>rfl
 case round =>
  obtain rfl:=hrel
  go_wp2_with (refine wpList_make_full _ rfl (.tmp 41) (.tmp 41) 75 rfl w.heap.size 161 i0 _ 1 Tryz.underlying75 hi0 hz0 hz1 .i64 .i64 _ _ 0 rfl rfl rfl rfl (by rw [hz2]; omega) (by simp only [maxLen]; omega) (Nat.le_refl _) ?_; intro w1 hown hg; have HB:=Hd ((Below.refl w.heap.size w).grown hg (Nat.le_refl _) (fun k hk=>by cases hk)); clear hown hg)
  go_loop [6] (fun iv=>iv = .int .i64 0) (fun _=>0)
  case atStart=>rfl
  case round =>
   obtain rfl:=hrel
   go_wp2_with fail
   go_loop [9] (fun iv=>iv = .int .i64 0) (fun _=>0)
   case atStart=>rfl
   case round =>
    obtain rfl:=hrel
    go_wp2_with fail
    go_loop [11] (fun iv=>iv = .int .i64 0) (fun _=>0)
    case atStart=>rfl
    case round =>
     obtain rfl:=hrel
     go_wp2_with fail
     go_loop [14] (fun iv=>iv = .int .i64 0) (fun _=>0)
     case atStart=>rfl
     case round =>
      obtain rfl:=hrel
      go_wp2_with fail
      go_ret
      exact ⟨rfl,HB.out⟩
theorem info_Boxes : (Tryz.prog.info? 166).map (fun i=>(i.zero,i.size,i.bytes)) = some (some (.slice none 0 0),1,24):=by kernel_rfl
set_option maxRecDepth 100000 in
set_option maxHeartbeats 1000000 in
theorem flatBoxes_nil (w : World) : Calls Tryz.prog 79 #[.slice none 0 0] w fun e w'=>e = .returned (.bool true) /\ Below w.heap.size w w':=by
 obtain ⟨i0,hi0,hz0,hz1,hz2⟩:=info_parts info_Boxes
 go_enter Tryz.func79,Tryz.ntmps79
 go_wp2_with fail
 go_loop [3] (fun iv=>iv = .int .i64 0) (fun _=>0)
 case atStart=>rfl
 case round =>
  obtain rfl:=hrel
  go_wp2_with (refine wpList_make_full _ rfl (.tmp 41) (.tmp 41) 76 rfl w.heap.size 166 i0 _ 1 Tryz.underlying76 hi0 hz0 hz1 .i64 .i64 _ _ 0 rfl rfl rfl rfl (by rw [hz2]; omega) (by simp only [maxLen]; omega) (Nat.le_refl _) ?_; intro w1 hown hg; have HB:=Hd ((Below.refl w.heap.size w).grown hg (Nat.le_refl _) (fun k hk=>by cases hk)); clear hown hg)
  go_loop [6] (fun iv=>iv = .int .i64 0) (fun _=>0)
  case atStart=>rfl
  case round =>
   obtain rfl:=hrel
   go_wp2_with fail
   go_loop [9] (fun iv=>iv = .int .i64 0) (fun _=>0)
   case atStart=>rfl
   case round =>
    obtain rfl:=hrel
    go_wp2_with fail
    go_loop [11] (fun iv=>iv = .int .i64 0) (fun _=>0)
    case atStart=>rfl
    case round =>
     obtain rfl:=hrel
     go_wp2_with fail
     go_loop [14] (fun iv=>iv = .int .i64 0) (fun _=>0)
     case atStart=>rfl
     case round =>
      obtain rfl:=hrel
      go_wp2_with fail
      go_ret
      exact ⟨rfl,HB.out⟩
theorem info_Certs : (Tryz.prog.info? 171).map (fun i=>(i.zero,i.size,i.bytes)) = some (some (.slice none 0 0),1,24):=by kernel_rfl
set_option maxRecDepth 100000 in
set_option maxHeartbeats 1000000 in
theorem flatCerts_nil (w : World) : Calls Tryz.prog 80 #[.slice none 0 0] w fun e w'=>e = .returned (.bool true) /\ Below w.heap.size w w':=by
 obtain ⟨i0,hi0,hz0,hz1,hz2⟩:=info_parts info_Certs
 go_enter Tryz.func80,Tryz.ntmps80
 go_wp2_with fail
 go_loop [3] (fun iv=>iv = .int .i64 0) (fun _=>0)
 case atStart=>rfl
 case round =>
  obtain rfl:=hrel
  go_wp2_with (refine wpList_make_full _ rfl (.tmp 41) (.tmp 41) 77 rfl w.heap.size 171 i0 _ 1 Tryz.underlying77 hi0 hz0 hz1 .i64 .i64 _ _ 0 rfl rfl rfl rfl (by rw [hz2]; omega) (by simp only [maxLen]; omega) (Nat.le_refl _) ?_; intro w1 hown hg; have HB:=Hd ((Below.refl w.heap.size w).grown hg (Nat.le_refl _) (fun k hk=>by cases hk)); clear hown hg)
  go_loop [6] (fun iv=>iv = .int .i64 0) (fun _=>0)
  case atStart=>rfl
  case round =>
   obtain rfl:=hrel
   go_wp2_with fail
   go_loop [9] (fun iv=>iv = .int .i64 0) (fun _=>0)
   case atStart=>rfl
   case round =>
    obtain rfl:=hrel
    go_wp2_with fail
    go_loop [11] (fun iv=>iv = .int .i64 0) (fun _=>0)
    case atStart=>rfl
    case round =>
     obtain rfl:=hrel
     go_wp2_with fail
     go_loop [14] (fun iv=>iv = .int .i64 0) (fun _=>0)
     case atStart=>rfl
     case round =>
      obtain rfl:=hrel
      go_wp2_with fail
      go_ret
      exact ⟨rfl,HB.out⟩
theorem info_Terms : (Tryz.prog.info? 176).map (fun i=>(i.zero,i.size,i.bytes)) = some (some (.slice none 0 0),1,24):=by kernel_rfl
set_option maxRecDepth 100000 in
set_option maxHeartbeats 1000000 in
theorem flatTerms_nil (w : World) : Calls Tryz.prog 81 #[.slice none 0 0] w fun e w'=>e = .returned (.bool true) /\ Below w.heap.size w w':=by
 obtain ⟨i0,hi0,hz0,hz1,hz2⟩:=info_parts info_Terms
 go_enter Tryz.func81,Tryz.ntmps81
 go_wp2_with fail
 go_loop [3] (fun iv=>iv = .int .i64 0) (fun _=>0)
 case atStart=>rfl
 case round =>
  obtain rfl:=hrel
  go_wp2_with (refine wpList_make_full _ rfl (.tmp 41) (.tmp 41) 78 rfl w.heap.size 176 i0 _ 1 Tryz.underlying78 hi0 hz0 hz1 .i64 .i64 _ _ 0 rfl rfl rfl rfl (by rw [hz2]; omega) (by simp only [maxLen]; omega) (Nat.le_refl _) ?_; intro w1 hown hg; have HB:=Hd ((Below.refl w.heap.size w).grown hg (Nat.le_refl _) (fun k hk=>by cases hk)); clear hown hg)
  go_loop [6] (fun iv=>iv = .int .i64 0) (fun _=>0)
  case atStart=>rfl
  case round =>
   obtain rfl:=hrel
   go_wp2_with fail
   go_loop [9] (fun iv=>iv = .int .i64 0) (fun _=>0)
   case atStart=>rfl
   case round =>
    obtain rfl:=hrel
    go_wp2_with fail
    go_loop [11] (fun iv=>iv = .int .i64 0) (fun _=>0)
    case atStart=>rfl
    case round =>
     obtain rfl:=hrel
     go_wp2_with fail
     go_loop [14] (fun iv=>iv = .int .i64 0) (fun _=>0)
     case atStart=>rfl
     case round =>
      obtain rfl:=hrel
      go_wp2_with fail
      go_ret
      exact ⟨rfl,HB.out⟩
theorem info_Hits : (Tryz.prog.info? 181).map (fun i=>(i.zero,i.size,i.bytes)) = some (some (.slice none 0 0),1,24):=by kernel_rfl
set_option maxRecDepth 100000 in
set_option maxHeartbeats 1000000 in
theorem flatHits_nil (w : World) : Calls Tryz.prog 82 #[.slice none 0 0] w fun e w'=>e = .returned (.bool true) /\ Below w.heap.size w w':=by
 obtain ⟨i0,hi0,hz0,hz1,hz2⟩:=info_parts info_Hits
 go_enter Tryz.func82,Tryz.ntmps82
 go_wp2_with fail
 go_loop [3] (fun iv=>iv = .int .i64 0) (fun _=>0)
 case atStart=>rfl
 case round =>
  obtain rfl:=hrel
  go_wp2_with (refine wpList_make_full _ rfl (.tmp 41) (.tmp 41) 79 rfl w.heap.size 181 i0 _ 1 Tryz.underlying79 hi0 hz0 hz1 .i64 .i64 _ _ 0 rfl rfl rfl rfl (by rw [hz2]; omega) (by simp only [maxLen]; omega) (Nat.le_refl _) ?_; intro w1 hown hg; have HB:=Hd ((Below.refl w.heap.size w).grown hg (Nat.le_refl _) (fun k hk=>by cases hk)); clear hown hg)
  go_loop [6] (fun iv=>iv = .int .i64 0) (fun _=>0)
  case atStart=>rfl
  case round =>
   obtain rfl:=hrel
   go_wp2_with fail
   go_loop [9] (fun iv=>iv = .int .i64 0) (fun _=>0)
   case atStart=>rfl
   case round =>
    obtain rfl:=hrel
    go_wp2_with fail
    go_loop [11] (fun iv=>iv = .int .i64 0) (fun _=>0)
    case atStart=>rfl
    case round =>
     obtain rfl:=hrel
     go_wp2_with fail
     go_loop [14] (fun iv=>iv = .int .i64 0) (fun _=>0)
     case atStart=>rfl
     case round =>
      obtain rfl:=hrel
      go_wp2_with fail
      go_ret
      exact ⟨rfl,HB.out⟩
theorem info_Limbs : (Tryz.prog.info? 50).map (fun i=>(i.zero,i.size,i.bytes)) = some (some (.slice none 0 0),1,24):=by kernel_rfl
set_option maxRecDepth 100000 in
set_option maxHeartbeats 1000000 in
theorem flatLimbs_nil (w : World) : Calls Tryz.prog 69 #[.slice none 0 0] w fun e w'=>e = .returned (.bool true) /\ Below w.heap.size w w':=by
 obtain ⟨i0,hi0,hz0,hz1,hz2⟩:=info_parts info_Limbs
 go_enter Tryz.func69,Tryz.ntmps69
 go_wp2_with fail
 go_loop [3] (fun iv=>iv = .int .i64 0) (fun _=>0)
 case atStart=>rfl
 case round =>
  obtain rfl:=hrel
  go_wp2_with (refine wpList_make_full _ rfl (.tmp 42) (.tmp 42) 67 rfl w.heap.size 50 i0 _ 1 Tryz.underlying67 hi0 hz0 hz1 .i64 .i64 _ _ 0 rfl rfl rfl rfl (by rw [hz2]; omega) (by simp only [maxLen]; omega) (Nat.le_refl _) ?_; intro w1 hown hg; have HB:=Hd ((Below.refl w.heap.size w).grown hg (Nat.le_refl _) (fun k hk=>by cases hk)); clear hown hg)
  go_loop [6] (fun iv=>iv = .int .i64 0) (fun _=>0)
  case atStart=>rfl
  case round =>
   obtain rfl:=hrel
   go_wp2_with fail
   go_loop [9] (fun iv=>iv = .int .i64 0) (fun _=>0)
   case atStart=>rfl
   case round =>
    obtain rfl:=hrel
    go_wp2_with fail
    go_loop [11] (fun iv=>iv = .int .i64 0) (fun _=>0)
    case atStart=>rfl
    case round =>
     obtain rfl:=hrel
     go_wp2_with fail
     go_loop [14] (fun iv=>iv = .int .i64 0) (fun _=>0)
     case atStart=>rfl
     case round =>
      obtain rfl:=hrel
      go_wp2_with fail
      go_ret
      exact ⟨rfl,HB.out⟩
end
section
open Go.RowKit
theorem mark_gen (k i : Nat) (hk : k < 1000000) (hi : i < 2000000) (w : World) : Calls Tryz.prog 30 #[.int .i64 k,.int .i64 i] w fun e w'=>e = .returned (.int .i64 (mk k i)) /\ w = w':=by
 have h1 : wrap64 ((k : Int) + 7) = (k : Int) + 7:=by unfold wrap64; omega
 have h2 : wrap64 (1000003 * ((k : Int) + 7)) = 1000003 * ((k : Int) + 7):=by unfold wrap64; omega
 have h3 : wrap64 (1000003 * ((k : Int) + 7) + (i : Int)) = 1000003 * ((k : Int) + 7) + (i : Int):=by unfold wrap64; omega
 unfold mk
 go_enter Tryz.func30,Tryz.ntmps30
 go_wp2
 go_ret
 exact ⟨by simp [h1,h2,h3],rfl⟩
theorem mk_b (k i : Nat) (hk : k < 1000000) (hi : i < 2000000) : 0 <= mk k i /\ mk k i < 9223372036854775808:=by unfold mk; omega
theorem manyL {w : World} {M : Nat} (h : w.ownsRow 0 2 1 (.slice (some ⟨M,0,none⟩) 64 64) 64 (madeCells (Value.int .i64 0).cells (64 * 1)).toList) : Rw.own 2 .i64 ⟨some M,64,64⟩ w (List.replicate 64 0):=by
 have e : (madeCells (Value.int .i64 0).cells (64 * 1)).toList = (List.replicate 64 (0 : Int)).map (Value.int .i64):=by
  rw [show (Value.int .i64 0).cells = #[Value.int .i64 0] from rfl,toList_madeCells_one,List.map_replicate]
 rw [e] at h; exact h
def FA (k n : Nat) : List Int:=MK k (n + 64)
def FB (m k n : Nat) : List Int:=MK k n ++ MK (k + m) 64
theorem info_Longss : (Tryz.prog.info? 22).map (fun i=>(i.zero,i.size,i.bytes)) = some (some (.slice none 0 0),1,24):=by kernel_rfl
set_option maxRecDepth 400000 in
set_option maxHeartbeats 4000000 in
theorem flatLongs_own (R : List Rw) (h cm : Nat) (w : World) (hm1 : 0 < R.length) (hm2 : R.length <= 100) (hn : ∀ r ∈ R,r.n <= 1000000) (hown : ∀ (j : Nat) (r : Rw),R[j]? = some r -> ∃ xs,r.own 2 .i64 w xs) (hA : Apart R)
  (hls : ∀ (j : Nat) (r : Rw),R[j]? = some r -> w.cell? ⟨h,j,none⟩ = some r.val) (hh : h < w.heap.size) (hoff : ∀ r ∈ R,r.A ≠ some h) :
  Calls Tryz.prog 71 #[.slice (some ⟨h,0,none⟩) R.length cm] w fun e w'=>e = .returned (.bool true) /\ KeptR R w w':=by
 obtain ⟨i0,hi0,hz0,hz1,hz2⟩:=info_parts i64_info
 obtain ⟨j0,hj0,hy0,hy1,hy2⟩:=info_parts info_Longss
 have HRB : Hid (∀ r ∈ R,∀ b,r.A = some b -> b < w.heap.size):=Hd (fun r hr b hb=>by
  obtain ⟨j,hj⟩:=List.getElem?_of_mem hr
  obtain ⟨xs,hx⟩:=hown j r hj
  exact hx.lt hb)
 have HST : Hid (F1 2 .i64 R w w 0 0):=Hd (F1.start hown)
 have HLS : Hid (∀ x,KeptR R w x -> ∀ (j : Nat) (r : Rw),R[j]? = some r -> x.cell? ⟨h,j,none⟩ = some r.val):=Hd (fun x hx j r hj=>(hx.cell (p:=⟨h,j,none⟩) hh hoff).trans (hls j r hj))
 have HN:=Hd hn
 have HA:=Hd hA
 obtain ⟨m,hm⟩ : ∃ m,m = R.length:=⟨_,rfl⟩
 rw [<- hm]
 have HM:=Hd hm
 rw [<- hm] at hm1 hm2
 clear hn hown hA hls hh hoff hm
 go_enter Tryz.func71,Tryz.ntmps71
 go_wp2_with fail
 go_loopw [3] (fun kv wr=>∃ k : Nat,kv = .int .i64 k /\ k <= m /\ Hid (F1 2 .i64 R w wr k 0)) (fun kv _=>m - (intOf kv).toNat)
 case atStart=>exact ⟨0,rfl,Nat.zero_le _,HST⟩
 case round =>
  obtain ⟨k,rfl,hk,HF⟩:=hrel
  by_cases hlt : k < m
  ·obtain ⟨r,hr⟩ : ∃ r,R[k]? = some r:=⟨_,List.getElem?_eq_getElem (by rw [<- HM.out]; exact hlt)⟩
   obtain ⟨AD,hAD⟩ : ∃ AD,AD = r.A.map (fun g=>(⟨g,0,none⟩ : Addr)):=⟨_,rfl⟩
   obtain ⟨n,hnn⟩ : ∃ n,n = r.n:=⟨_,rfl⟩
   obtain ⟨c,hcc⟩ : ∃ c,c = r.c:=⟨_,rfl⟩
   have hrv : r.val = .slice AD n c:=by unfold Rw.val; rw [<- hAD,<- hnn,<- hcc]
   have HLK : Hid (∀ x,KeptR R w x -> x.cell? ⟨h,k,none⟩ = some (.slice AD n c)):=Hd (fun x hx=>by rw [<- hrv]; exact HLS.out x hx k r hr)
   have HR:=Hd hr
   have HNN:=Hd hnn
   have HAD:=Hd hAD
   have HNB : n <= 1000000:=by rw [hnn]; exact HN.out r (List.mem_of_getElem? hr)
   have HMK:=Hd (fun i hi w=>mark_gen k i (by omega) hi w)
   have hls0:=HLK.out wr HF.out.1
   clear hr hrv hnn hcc hAD
   go_wp2_with fail
   go_loopw [4] (fun iv wx=>∃ i : Nat,iv = .int .i64 i /\ i <= n /\ Hid (F1 2 .i64 R w wx k i)) (fun iv _=>n - (intOf iv).toNat)
   case atStart=>exact ⟨0,rfl,Nat.zero_le _,HF⟩
   case round =>
    clear hls0
    obtain ⟨i,rfl,hi,HG⟩:=hrel
    have hls1:=HLK.out _ HG.out.1
    by_cases hin : i < n
    ·obtain ⟨xs,hx1,_,_⟩:=HG.out.2 k r HR.out
     obtain ⟨g,hg,_⟩:=hx1.some (by rw [<- HNN.out]; omega)
     have hxl:=hx1.len
     obtain ⟨u,hu⟩ : ∃ u,xs[i]? = some u:=⟨_,List.getElem?_eq_getElem (by rw [hxl,<- HNN.out]; exact hin)⟩
     have hcg:=hx1.cell hg i u hu
     have hfg:=hx1.free hg i
     have HSTO : Hid (F1 2 .i64 R w (wr.setCell ⟨g,i,none⟩ (.int .i64 (mk k i))) k (i + 1)):=Hd (HG.out.store HA.out HR.out (by rw [<- HNN.out]; exact hin) hg)
     obtain rfl : AD = some ⟨g,0,none⟩:=by rw [HAD.out,hg]; rfl
     have HMI:=Hd (HMK.out i (by omega))
     clear hx1 hxl hu hg
     go_wp2_with fail
     go_region_with (go_at_call 30; refine (HMI.out _).mono ?_; rintro e w' ⟨rfl,rfl⟩)
     all_goals (go_wp2_with fail; exact ⟨⟨i + 1,by go_num,hin,Hd HSTO.out.drew⟩,by simp [intOf]; omega⟩)
    ·obtain rfl : n = i:=by omega
     have HE : Hid (F1 2 .i64 R w wr (k + 1) 0):=Hd ((HNN.out ▸ HG.out : F1 2 .i64 R w _ k r.n).row HR.out)
     go_wp2_with fail
     exact ⟨⟨k + 1,by go_num,hlt,HE⟩,by simp [intOf]; omega⟩
  ·obtain rfl : m = k:=by omega
   have HF1 : Hid (F1 2 .i64 R w wr R.length 0):=Hd (by rw [<- HM.out]; exact HF.out)
   go_wp2_with (refine wpList_make_full _ rfl (.tmp 41) (.tmp 41) 43 rfl 0 22 j0 _ 1 Tryz.underlying43 hj0 hy0 hy1 .i64 .i64 _ _ m rfl rfl rfl rfl (by rw [hy2]; omega) (by simp only [maxLen]; omega) (Nat.zero_le _) ?_; intro w1 hown1 hg1; have h:=hown1; rw [HM.out] at h; have HF2:=Hd (⟨_,F2.begin HF1.out h hg1 HF1.out.1.size⟩ : ∃ GS,F2 2 22 .i64 R w wr.heap.size FA w1 GS 0); clear h hown1 hg1)
   obtain ⟨G,hG⟩ : ∃ G,G = wr.heap.size:=⟨_,rfl⟩
   rw [<- hG] at HF2 ⊢
   clear hG HF HF1 HST
   go_loopw [6] (fun kv wx=>∃ (k : Nat) (GS : List Value),kv = .int .i64 k /\ k <= m /\ Hid (F2 2 22 .i64 R w G FA wx GS k)) (fun kv _=>m - (intOf kv).toNat)
   case atStart =>
    obtain ⟨GS,h⟩:=HF2.out
    exact ⟨0,GS,rfl,Nat.zero_le _,Hd h⟩
   case round =>
    clear HF2
    obtain ⟨k,GS,rfl,hk,HF⟩:=hrel
    by_cases hlt : k < m
    ·obtain ⟨r,hr⟩ : ∃ r,R[k]? = some r:=⟨_,List.getElem?_eq_getElem (by rw [<- HM.out]; exact hlt)⟩
     obtain ⟨AD,hAD⟩ : ∃ AD,AD = r.A.map (fun g=>(⟨g,0,none⟩ : Addr)):=⟨_,rfl⟩
     obtain ⟨n,hnn⟩ : ∃ n,n = r.n:=⟨_,rfl⟩
     obtain ⟨c,hcc⟩ : ∃ c,c = r.c:=⟨_,rfl⟩
     have hrv : r.val = .slice AD n c:=by unfold Rw.val; rw [<- hAD,<- hnn,<- hcc]
     have HLK : Hid (∀ x,KeptR R w x -> x.cell? ⟨h,k,none⟩ = some (.slice AD n c)):=Hd (fun x hx=>by rw [<- hrv]; exact HLS.out x hx k r hr)
     have HR:=Hd hr
     have HNN:=Hd hnn
     have HRV:=Hd hrv
     have HNB : n <= 1000000:=by rw [hnn]; exact HN.out r (List.mem_of_getElem? hr)
     have HMK:=Hd (fun i hi w=>mark_gen k i (by omega) hi w)
     have HMB:=Hd (fun i hi=>mk_b k i (by omega) hi)
     have hls0:=HLK.out wr HF.out.1
     clear hr hrv hnn hcc hAD
     go_wp2_with fail
     go_loopw [7,8] (fun gv iv wx=>∃ (i : Nat) (v : Rw),iv = .int .i64 i /\ gv = v.val /\ i <= 64 /\ v.n = n + i /\ Hid (F2 2 22 .i64 R w G FA wx GS k) /\ Hid (Cur 2 .i64 R w G wx GS k v (MK k (n + i)))) (fun _ iv _=>64 - (intOf iv).toNat)
     case atStart=>exact ⟨0,r,rfl,HRV.out.symm,by omega,by rw [<- HNN.out,Nat.add_zero],HF,Hd (by rw [Nat.add_zero,HNN.out]; exact Cur.start HF.out HA.out HRB.out HR.out)⟩
     case round =>
      clear hls0
      obtain ⟨i,v,rfl,rfl,hi,hvn,HG,HC⟩:=hrel
      have hls1:=HLK.out _ HG.out.1
      by_cases hin : i < 64
      ·obtain ⟨q,hq⟩ : ∃ q,q = n + i:=⟨_,rfl⟩
       have hni : (n : Int) + (i : Int) = (q : Int):=by omega
       have hqb : q < 2000000:=by omega
       rw [<- hq] at HC
       have HVN : Hid (v.n = q):=Hd (by omega)
       have HNI : Hid (r.n <= v.n):=Hd (by rw [<- HNN.out]; omega)
       have HIN : Hid (i < 64 /\ n + (i + 1) = q + 1):=Hd (by omega)
       have HQB : Hid (q <= 1000100):=Hd (by omega)
       obtain ⟨u,hu⟩ : ∃ u,u = mk k q:=⟨_,rfl⟩
       have HMI : Hid (∀ x,Calls Tryz.prog 30 #[.int .i64 k,.int .i64 q] x fun e w'=>e = .returned (.int .i64 u) /\ x = w'):=Hd (fun x=>by rw [hu]; exact HMK.out q hqb x)
       have HUB : Hid (0 <= u /\ u < 9223372036854775808):=Hd (by rw [hu]; exact HMB.out q hqb)
       have HU:=Hd hu
       have OWNV : Hid ((wr.alloc (.cells #[.int .i64 u] 2)).ownsRow 0 2 1 v.val q ((MK k q).map (Value.int .i64))):=Hd (by have:=(HC.out.alloc (.cells #[.int .i64 u] 2)).1; unfold Rw.own at this; rw [HVN.out] at this; exact this)
       have CELLS2:=Hd (cell1L wr u 2)
       clear hq hu hqb hvn
       go_wp2_with (first
        | (go_at_call 30; refine (HMI.out _).mono ?_; rintro e w' ⟨rfl,rfl⟩)
        | (at_builtin; refine append_keep _ rfl (.tmp 57) (.tmp 67) 22 rfl 2 i0 _ 8 Tryz.underlying22 hi0 hz0 hz1 hz2 rfl v.val q ((MK k q).map (Value.int .i64)) rfl OWNV.out ⟨wr.heap.size,0,none⟩ 1 1 [Value.int .i64 u] rfl CELLS2.out.1 CELLS2.out.2.1 CELLS2.out.2.2 (by have:=HQB.out; simp only [maxLen]; omega) (by have:=HQB.out; omega) ?_; intro v2 w2 ho hg hl hkp; have HOB : Hid (∃ v3 : Rw,v2 = v3.val /\ v3.n = q + 1 /\ F2 2 22 .i64 R w G FA w2 GS k /\ Cur 2 .i64 R w G w2 GS k v3 (MK k q ++ [u])):=Hd (F2.append (HG.out.alloc _) (HC.out.alloc _) HR.out HNI.out ho hg hl (by rw [HVN.out]; exact hkp)); clear ho hg hl hkp))
       obtain ⟨v3,rfl,hv3,hF3,hC3⟩:=HOB.out
       refine ⟨⟨i + 1,v3,by go_num,rfl,HIN.out.1,by rw [HIN.out.2]; exact hv3,Hd hF3,Hd ?_⟩,by have:=HIN.out; simp [intOf]; omega⟩
       rw [HIN.out.2,MK_succ,<- HU.out]
       exact hC3
      ·obtain rfl : i = 64:=by omega
       obtain ⟨u0,_,hgc,hgf⟩:=HG.out.slot k (by rw [<- HM.out]; exact hlt)
       have HE : Hid (F2 2 22 .i64 R w G FA (wr.setCell ⟨G,k,none⟩ v.val) (GS.set k v.val) (k + 1)):=Hd (HG.out.put (r:=r) (by unfold FA; rw [<- HNN.out]; exact HC.out) HRB.out HR.out (by rw [<- HNN.out]; exact hvn))
       obtain ⟨AV,nV,cV,hvv⟩ : ∃ AV nV cV,v.val = Value.slice AV nV cV:=⟨_,_,_,rfl⟩
       rw [hvv] at HE ⊢
       clear hvn hvv
       go_wp2_with fail
       exact ⟨⟨k + 1,_,by go_num,hlt,HE⟩,by simp [intOf]; omega⟩
    ·obtain rfl : m = k:=by omega
     obtain ⟨GS2,HGS⟩ : ∃ GS2,GS = GS2:=⟨_,rfl⟩
     rw [HGS] at HF
     clear HGS
     go_wp2_with fail
     go_loopw [9] (fun kv wx=>∃ k : Nat,kv = .int .i64 k /\ k <= m /\ Hid (F2 2 22 .i64 R w G FA wx GS2 m)) (fun kv _=>m - (intOf kv).toNat)
     case atStart=>exact ⟨0,rfl,Nat.zero_le _,HF⟩
     case round =>
      clear HF
      obtain ⟨k,rfl,hk,HF⟩:=hrel
      by_cases hlt : k < m
      ·obtain ⟨r,hr⟩ : ∃ r,R[k]? = some r:=⟨_,List.getElem?_eq_getElem (by rw [<- HM.out]; exact hlt)⟩
       obtain ⟨AD,hAD⟩ : ∃ AD,AD = r.A.map (fun g=>(⟨g,0,none⟩ : Addr)):=⟨_,rfl⟩
       obtain ⟨n,hnn⟩ : ∃ n,n = r.n:=⟨_,rfl⟩
       obtain ⟨c,hcc⟩ : ∃ c,c = r.c:=⟨_,rfl⟩
       have hrv : r.val = .slice AD n c:=by unfold Rw.val; rw [<- hAD,<- hnn,<- hcc]
       have HLK : Hid (∀ x,KeptR R w x -> x.cell? ⟨h,k,none⟩ = some (.slice AD n c)):=Hd (fun x hx=>by rw [<- hrv]; exact HLS.out x hx k r hr)
       have HR:=Hd hr
       have HNN:=Hd hnn
       have HAD:=Hd hAD
       have HNB : n <= 1000000:=by rw [hnn]; exact HN.out r (List.mem_of_getElem? hr)
       have HMK:=Hd (fun i hi w=>mark_gen k i (by omega) hi w)
       obtain ⟨g,hg1,hg2⟩:=HF.out.at hlt hr
       have HG1:=Hd hg1
       obtain ⟨GD,hGD⟩ : ∃ GD,GD = g.A.map (fun g=>(⟨g,0,none⟩ : Addr)):=⟨_,rfl⟩
       obtain ⟨gc,hgc⟩ : ∃ gc,gc = g.c:=⟨_,rfl⟩
       have hgv : g.val = .slice GD (n + 64) gc:=by unfold Rw.val; rw [<- hGD,hg2,<- hnn,<- hgc]
       have HGD:=Hd hGD
       have HGN : Hid (g.n = n + 64):=Hd (by rw [hg2,hnn])
       have HGK : Hid (∀ x GF,F2 2 22 .i64 R w G GF x GS2 m -> x.cell? ⟨G,k,none⟩ = some (.slice GD (n + 64) gc)):=Hd (fun x GF hx=>by rw [<- hgv]; exact hx.gcell hg1)
       have hls0:=HLK.out wr HF.out.1
       have hgs0:=HGK.out wr _ HF.out
       clear hr hrv hnn hcc hAD hg1 hg2 hGD hgc hgv
       go_wp2_with fail
       go_loopw [10] (fun iv wx=>∃ i : Nat,iv = .int .i64 i /\ i <= n + 64 /\ Hid (F2 2 22 .i64 R w G FA wx GS2 m)) (fun iv _=>n + 64 - (intOf iv).toNat)
       case atStart=>exact ⟨0,rfl,by omega,HF⟩
       case round =>
        clear hls0 hgs0 HF
        obtain ⟨i,rfl,hi,HF⟩:=hrel
        have hls1:=HLK.out wr HF.out.1
        have hgs1:=HGK.out wr _ HF.out
        by_cases hin : i < n + 64
        ·have HMI:=Hd (HMK.out i (by omega))
         have HGO:=HF.out.gown hlt HR.out HG1.out
         obtain ⟨gb,hgb,_⟩:=HGO.some (by rw [HGN.out]; omega)
         have hcg:=HGO.cell hgb i (mk k i) (by unfold FA; exact MK_get (by rw [<- HNN.out]; exact hin))
         obtain rfl : GD = some ⟨gb,0,none⟩:=by rw [HGD.out,hgb]; rfl
         obtain ⟨u,hu⟩ : ∃ u,u = mk k i:=⟨_,rfl⟩
         rw [<- hu] at hcg HMI
         have huu : (u == u) = true:=by simp
         have HU:=Hd hu
         have hin2 : (i : Int) < (n : Int) + 64:=by omega
         by_cases hil : i < n
         ·have HRO:=HF.out.2.1 k r HR.out
          obtain ⟨rb,hrb,_⟩:=HRO.some (by rw [<- HNN.out]; omega)
          have hcr:=HRO.cell hrb i (mk k i) (MK_get (by rw [<- HNN.out]; exact hil))
          rw [<- hu] at hcr
          obtain rfl : AD = some ⟨rb,0,none⟩:=by rw [HAD.out,hrb]; rfl
          have hd : decide ((i : Int) < (n : Int)) = true:=decide_eq_true (by omega)
          clear hu HGO HRO hgb hrb
          go_wp2_with fail
          go_quiet ((go_at_call 30; exact Calls.quiet_of_same ((HMI.out _).mono fun _ _ he=>⟨he.1,he.2.symm⟩)))
          rename_i nq
          go_wp2_with fail
          exact ⟨⟨i + 1,by go_num,hin,Hd (HF.out.drewN nq)⟩,by simp [intOf]; omega⟩
         ·have hd : decide ((i : Int) < (n : Int)) = false:=decide_eq_false (by omega)
          clear hu HGO hgb
          go_wp2_with fail
          go_quiet ((go_at_call 30; exact Calls.quiet_of_same ((HMI.out _).mono fun _ _ he=>⟨he.1,he.2.symm⟩)))
          rename_i nq
          go_wp2_with fail
          exact ⟨⟨i + 1,by go_num,hin,Hd (HF.out.drewN nq)⟩,by simp [intOf]; omega⟩
        ·obtain rfl : i = n + 64:=by omega
         go_wp2_with fail
         exact ⟨⟨k + 1,by go_num,hlt,HF⟩,by simp [intOf]; omega⟩
      ·obtain rfl : m = k:=by omega
       have HF0 : Hid (F2 2 22 .i64 R w G (FB m) wr GS2 0):=Hd HF.out.low
       clear HF
       go_wp2_with fail
       go_loopw [11] (fun kv wx=>∃ (k : Nat) (GS : List Value),kv = .int .i64 k /\ k <= m /\ Hid (F2 2 22 .i64 R w G (FB m) wx GS k)) (fun kv _=>m - (intOf kv).toNat)
       case atStart=>exact ⟨0,GS2,rfl,Nat.zero_le _,HF0⟩
       case round =>
        clear HF0
        obtain ⟨k,GS,rfl,hk,HF⟩:=hrel
        by_cases hlt : k < m
        ·obtain ⟨r,hr⟩ : ∃ r,R[k]? = some r:=⟨_,List.getElem?_eq_getElem (by rw [<- HM.out]; exact hlt)⟩
         obtain ⟨AD,hAD⟩ : ∃ AD,AD = r.A.map (fun g=>(⟨g,0,none⟩ : Addr)):=⟨_,rfl⟩
         obtain ⟨n,hnn⟩ : ∃ n,n = r.n:=⟨_,rfl⟩
         obtain ⟨c,hcc⟩ : ∃ c,c = r.c:=⟨_,rfl⟩
         have hrv : r.val = .slice AD n c:=by unfold Rw.val; rw [<- hAD,<- hnn,<- hcc]
         have HLK : Hid (∀ x,KeptR R w x -> x.cell? ⟨h,k,none⟩ = some (.slice AD n c)):=Hd (fun x hx=>by rw [<- hrv]; exact HLS.out x hx k r hr)
         have HR:=Hd hr
         have HNN:=Hd hnn
         have HAD:=Hd hAD
         have HRV:=Hd hrv
         have HNB : n <= 1000000:=by rw [hnn]; exact HN.out r (List.mem_of_getElem? hr)
         obtain ⟨km,hkm0⟩ : ∃ km,km = k + m:=⟨_,rfl⟩
         have HKM:=Hd hkm0
         have HMK:=Hd (fun i hi w=>mark_gen km i (by omega) hi w)
         have hkm : (k : Int) + (m : Int) = (km : Int):=by omega
         have hls0:=HLK.out wr HF.out.1
         clear hr hrv hnn hcc hAD hkm0
         go_wp2_with (refine wpList_make_full _ rfl (.const (.int .i64 64)) (.const (.int .i64 64)) 22 rfl 0 2 i0 _ 1 Tryz.underlying22 hi0 hz0 hz1 .i64 .i64 _ _ 64 rfl rfl rfl rfl (by rw [hz2]; omega) (by simp only [maxLen]; omega) (Nat.zero_le _) ?_; intro w1 hown1 hg1; have HFM : Hid (F2 2 22 .i64 R w G (FB m) w1 GS k):=Hd (HF.out.made hg1); have HMA : Hid (Rw.own 2 .i64 ⟨some wr.heap.size,64,64⟩ w1 (List.replicate 64 0)):=Hd (manyL hown1); have HFR:=Hd (HF.out.fresh (by rw [<- HM.out]; exact hk)); clear hown1 hg1)
         obtain ⟨M,hM⟩ : ∃ M,M = wr.heap.size:=⟨_,rfl⟩
         rw [<- hM] at HMA HFR ⊢
         clear hM HF hls0
         go_loopw [13] (fun iv wx=>∃ (i : Nat) (xs : List Int),iv = .int .i64 i /\ i <= 64 /\ Hid (F2 2 22 .i64 R w G (FB m) wx GS k) /\ Hid (Rw.own 2 .i64 ⟨some M,64,64⟩ wx xs) /\ Hid (xs.take i = MK km i)) (fun iv _=>64 - (intOf iv).toNat)
         case atStart=>exact ⟨0,_,rfl,by omega,HFM,HMA,Hd rfl⟩
         case round =>
          clear HFM HMA
          obtain ⟨i,xs,rfl,hi,HF,HX,HXT⟩:=hrel
          have hxl : xs.length = 64:=HX.out.len
          by_cases hin : i < 64
          ·obtain ⟨u0,hu0⟩ : ∃ u0,xs[i]? = some u0:=⟨_,List.getElem?_eq_getElem (by omega)⟩
           have hcm:=HX.out.cell rfl i u0 hu0
           have hfm:=HX.out.free rfl i
           obtain ⟨u,hu⟩ : ∃ u,u = mk km i:=⟨_,rfl⟩
           have HMI : Hid (∀ x,Calls Tryz.prog 30 #[.int .i64 km,.int .i64 i] x fun e w'=>e = .returned (.int .i64 u) /\ x = w'):=Hd (fun x=>by rw [hu]; exact HMK.out i (by omega) x)
           have HXN : Hid (Rw.own 2 .i64 ⟨some M,64,64⟩ (wr.setCell ⟨M,i,none⟩ (.int .i64 u)) (xs.set i u)):=Hd (HX.out.set rfl i u)
           have HFN : Hid (F2 2 22 .i64 R w G (FB m) (wr.setCell ⟨M,i,none⟩ (.int .i64 u)) GS k):=Hd (HF.out.off HFR.out (grownBy_cell _ _ _ _))
           have HTN : Hid ((xs.set i u).take (i + 1) = MK km (i + 1)):=Hd (by
            rw [MK_succ,<- HXT.out,List.take_add_one,List.take_set_of_le (Nat.le_refl _),List.getElem?_set_self (by omega),hu]
            rfl)
           clear hu0 hu hxl
           go_wp2_with (go_at_call 30; refine (HMI.out _).mono ?_; rintro e w' ⟨rfl,rfl⟩)
           exact ⟨⟨i + 1,_,by go_num,hin,HFN,HXN,HTN⟩,by simp [intOf]; omega⟩
          ·obtain rfl : i = 64:=by omega
           have hls1:=HLK.out wr HF.out.1
           have HXE : Hid (xs = MK km 64):=Hd (by have h:=HXT.out; rw [List.take_of_length_le (by omega)] at h; exact h)
           have OWNK : Hid (wr.ownsRow 0 2 1 (.slice AD n c) n ((MK k n).map (Value.int .i64))):=Hd (by have h:=HF.out.2.1 k r HR.out; unfold Rw.own at h; rw [HRV.out,<- HNN.out] at h; exact h)
           have HMC:=Hd (show ((MK km 64).map (Value.int .i64)).length = 64 * 1 by rw [List.length_map,MK_len])
           have HMD : Hid (∀ j u,((MK km 64).map (Value.int .i64))[j]? = some u -> wr.cell? ((⟨M,0,none⟩ : Addr).add j) = some u):=Hd (by
            have h:=HX.out
            rw [HXE.out] at h
            exact World.ownsRow.cells (v:=Rw.val ⟨some M,64,64⟩) h (g:=M) rfl)
           have HME : Hid (∀ u ∈ (MK km 64).map (Value.int .i64),u.oneCell' = true):=Hd (fun u hu=>by obtain ⟨x,_,rfl⟩:=List.mem_map.1 hu; rfl)
           have HC0:=Hd (Cur.start HF.out HA.out HRB.out HR.out)
           obtain ⟨u0,_,hgc,hgf⟩:=HF.out.slot k (by rw [<- HM.out]; exact hlt)
           have HRN : Hid (r.n <= r.n):=Hd (Nat.le_refl _)
           have HGM : Hid (∀ x GS2,F2 2 22 .i64 R w G (FB m) x GS2 k -> ∃ u,x.cell? ⟨G,k,none⟩ = some u /\ x.frozen? ⟨G,k,none⟩ = false):=Hd (fun x GS2 h=>by
            obtain ⟨u,_,h1,h2⟩:=h.slot k (by rw [<- HM.out]; exact hlt)
            exact ⟨u,h1,h2⟩)
           clear hxl hgc hgf
           go_wp2_with (at_builtin; refine append_keep _ rfl (.tmp 148) (.tmp 149) 22 rfl 2 i0 _ 8 Tryz.underlying22 hi0 hz0 hz1 hz2 rfl (.slice AD n c) n ((MK k n).map (Value.int .i64)) rfl OWNK.out ⟨M,0,none⟩ 64 64 ((MK km 64).map (Value.int .i64)) rfl HMC.out HMD.out HME.out (by simp only [maxLen]; omega) (by omega) ?_; intro v2 w2 ho hg hl hkp; have HOB : Hid (∃ v3 : Rw,v2 = v3.val /\ v3.n = n + 64 /\ F2 2 22 .i64 R w G (FB m) w2 GS k /\ Cur 2 .i64 R w G w2 GS k v3 (MK k r.n ++ MK km 64)):=Hd (F2.append HF.out HC0.out HR.out HRN.out (by rw [<- HNN.out]; exact ho) (by rw [HRV.out]; exact hg) (by rw [HRV.out]; exact hl) (by rw [HRV.out,<- HNN.out]; exact hkp)); clear ho hg hl hkp; obtain ⟨AV,nV,cV,hv2⟩ : ∃ AV nV cV,v2 = Value.slice AV nV cV:=(by obtain ⟨v3,h1,_⟩:=HOB.out; exact ⟨_,_,_,h1⟩); subst hv2; obtain ⟨u1,hgc,hgf⟩ : ∃ u,w2.cell? ⟨G,k,none⟩ = some u /\ w2.frozen? ⟨G,k,none⟩ = false:=(by obtain ⟨v3,_,_,h3,_⟩:=HOB.out; exact HGM.out w2 GS h3))
           obtain ⟨v3,hv3,hv4,hF3,hC3⟩:=HOB.out
           refine ⟨⟨k + 1,GS.set k (Value.slice AV nV cV),by go_num,hlt,Hd ?_⟩,by simp [intOf]; omega⟩
           rw [hv3]
           exact hF3.put (r:=r) (by unfold FB; rw [<- HKM.out]; exact hC3) HRB.out HR.out (by rw [<- HNN.out]; exact hv4)
        ·obtain rfl : m = k:=by omega
         obtain ⟨GS3,HGS⟩ : ∃ GS3,GS = GS3:=⟨_,rfl⟩
         rw [HGS] at HF
         clear HGS
         go_wp2_with fail
         go_loopw [14] (fun kv wx=>∃ k : Nat,kv = .int .i64 k /\ k <= m /\ Hid (F2 2 22 .i64 R w G (FB m) wx GS3 m)) (fun kv _=>m - (intOf kv).toNat)
         case atStart=>exact ⟨0,rfl,Nat.zero_le _,HF⟩
         case round =>
          clear HF
          obtain ⟨k,rfl,hk,HF⟩:=hrel
          by_cases hlt : k < m
          ·obtain ⟨r,hr⟩ : ∃ r,R[k]? = some r:=⟨_,List.getElem?_eq_getElem (by rw [<- HM.out]; exact hlt)⟩
           obtain ⟨AD,hAD⟩ : ∃ AD,AD = r.A.map (fun g=>(⟨g,0,none⟩ : Addr)):=⟨_,rfl⟩
           obtain ⟨n,hnn⟩ : ∃ n,n = r.n:=⟨_,rfl⟩
           obtain ⟨c,hcc⟩ : ∃ c,c = r.c:=⟨_,rfl⟩
           have hrv : r.val = .slice AD n c:=by unfold Rw.val; rw [<- hAD,<- hnn,<- hcc]
           have HLK : Hid (∀ x,KeptR R w x -> x.cell? ⟨h,k,none⟩ = some (.slice AD n c)):=Hd (fun x hx=>by rw [<- hrv]; exact HLS.out x hx k r hr)
           have HR:=Hd hr
           have HNN:=Hd hnn
           have HAD:=Hd hAD
           have HRV:=Hd hrv
           have HNB : n <= 1000000:=by rw [hnn]; exact HN.out r (List.mem_of_getElem? hr)
           have HMK:=Hd (fun i hi w=>mark_gen k i (by omega) hi w)
           obtain ⟨g,hg1,hg2⟩:=HF.out.at hlt hr
           have HG1:=Hd hg1
           obtain ⟨GD,hGD⟩ : ∃ GD,GD = g.A.map (fun g=>(⟨g,0,none⟩ : Addr)):=⟨_,rfl⟩
           obtain ⟨gc,hgc⟩ : ∃ gc,gc = g.c:=⟨_,rfl⟩
           have hgv : g.val = .slice GD (n + 64) gc:=by unfold Rw.val; rw [<- hGD,hg2,<- hnn,<- hgc]
           have HGD:=Hd hGD
           have HGN : Hid (g.n = n + 64):=Hd (by rw [hg2,hnn])
           have HGK : Hid (∀ x GF,F2 2 22 .i64 R w G GF x GS3 m -> x.cell? ⟨G,k,none⟩ = some (.slice GD (n + 64) gc)):=Hd (fun x GF hx=>by rw [<- hgv]; exact hx.gcell hg1)
           have hls0:=HLK.out wr HF.out.1
           clear hr hrv hnn hcc hAD hg1 hg2 hGD hgc hgv
           go_wp2_with fail
           go_loopw [15] (fun iv wx=>∃ i : Nat,iv = .int .i64 i /\ i <= n /\ Hid (F2 2 22 .i64 R w G (FB m) wx GS3 m)) (fun iv _=>n - (intOf iv).toNat)
           case atStart=>exact ⟨0,rfl,by omega,HF⟩
           case round =>
            clear hls0 HF
            obtain ⟨i,rfl,hi,HF⟩:=hrel
            have hls1:=HLK.out wr HF.out.1
            have hgs1:=HGK.out wr _ HF.out
            by_cases hin : i < n
            ·have HMI:=Hd (HMK.out i (by omega))
             have HGO:=HF.out.gown hlt HR.out HG1.out
             obtain ⟨gb,hgb,_⟩:=HGO.some (by rw [HGN.out]; omega)
             have hcg:=HGO.cell hgb i (mk k i) (by unfold FB; rw [List.getElem?_append_left (by rw [MK_len,<- HNN.out]; exact hin)]; exact MK_get (by rw [<- HNN.out]; exact hin))
             obtain rfl : GD = some ⟨gb,0,none⟩:=by rw [HGD.out,hgb]; rfl
             obtain ⟨u,hu⟩ : ∃ u,u = mk k i:=⟨_,rfl⟩
             rw [<- hu] at hcg HMI
             have huu : (u == u) = true:=by simp
             have HRO:=HF.out.2.1 k r HR.out
             obtain ⟨rb,hrb,_⟩:=HRO.some (by rw [<- HNN.out]; omega)
             have hcr:=HRO.cell hrb i (mk k i) (MK_get (by rw [<- HNN.out]; exact hin))
             rw [<- hu] at hcr
             obtain rfl : AD = some ⟨rb,0,none⟩:=by rw [HAD.out,hrb]; rfl
             have hin64 : i < n + 64:=by omega
             clear hu HGO HRO hgb hrb
             go_wp2_with fail
             go_quiet ((go_at_call 30; exact Calls.quiet_of_same ((HMI.out _).mono fun _ _ he=>⟨he.1,he.2.symm⟩)))
             rename_i nq
             go_wp2_with fail
             exact ⟨⟨i + 1,by go_num,hin,Hd (HF.out.drewN nq)⟩,by simp [intOf]; omega⟩
            ·obtain rfl : n = i:=by omega
             go_wp2_with fail
             exact ⟨⟨k + 1,by go_num,hlt,HF⟩,by simp [intOf]; omega⟩
          ·obtain rfl : m = k:=by omega
           go_wp2_with fail
           go_ret
           exact ⟨rfl,HF.out.1⟩
end
end Go.Proofs.YtfpopdneokekiaaGreatDoor
