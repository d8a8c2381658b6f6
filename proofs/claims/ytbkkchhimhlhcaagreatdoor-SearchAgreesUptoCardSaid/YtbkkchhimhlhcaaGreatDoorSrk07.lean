/- Part 7 of the proof that identitylaw12.SearchChecks returns true for every data that it may be called with: proof: the package variables hold what the program lays; nothing else is asked. -/
import Derived.Test.YtbkkchhimhlhcaaGreatDoorSrk02
import Derived.Test.YtbkkchhimhlhcaaGreatDoorProg
set_option linter.unusedVariables false
set_option linter.unusedSimpArgs false
set_option maxRecDepth 100000
set_option maxHeartbeats 16000000
/- Walks of the layer fold (first part). -/
namespace Go.Proofs.YtbkkchhimhlhcaaGreatDoor
open Go.RowKit
open Idn (L B Bs drop_L take_L size_L)
theorem made_pos (s:ByteArray) (h:Idn.made (L s)=true):0<s.size:=by
 rw[size_L]
 unfold Idn.made at h
 cases hs:L s with
 |nil=>simp[hs]at h
 |cons a r=>simp
theorem upper_any (c : UInt8) (w : World) :
  Calls Tryz.prog 190 #[.int .u8 (c.toNat:Int)] w fun e w'=>e=.returned (.bool (Idn.up c))∧w=w':=by
 by_cases h1:(65:Int)≤(c.toNat:Int)
 all_goals
  go_enter Tryz.func190,Tryz.ntmps190
  go_wp2
  go_ret
  exact ⟨ret_bool (by rw[Bool.eq_iff_iff];simp[Idn.up];omega),rfl⟩
theorem letter_any (c : UInt8) (w : World) :
  Calls Tryz.prog 156 #[.int .u8 (c.toNat:Int)] w fun e w'=>e=.returned (.bool (Idn.letter c))∧w=w':=by
 cases hu:Idn.up c
 all_goals
  have hU:=(upper_any c w)
  rw[hu]at hU
  by_cases h1:(97:Int)≤(c.toNat:Int)
  all_goals
   go_enter Tryz.func156,Tryz.ntmps156
   go_wp2_with (go_at_call 190;refine hU.mono ?_;rintro e w' ⟨rfl,rfl⟩)
   go_ret
   exact ⟨ret_bool (by first|(simp[Idn.letter,hu];done)|(rw[Bool.eq_iff_iff];simp[Idn.letter,hu];omega)),rfl⟩
theorem digit_any (c : UInt8) (w : World) :
  Calls Tryz.prog 157 #[.int .u8 (c.toNat:Int)] w fun e w'=>e=.returned (.bool (Idn.digit c))∧w=w':=by
 by_cases h1:(48:Int)≤(c.toNat:Int)
 all_goals
  go_enter Tryz.func157,Tryz.ntmps157
  go_wp2
  go_ret
  exact ⟨ret_bool (by rw[Bool.eq_iff_iff];simp[Idn.digit];omega),rfl⟩
theorem nameC_any (c : UInt8) (w : World) :
  Calls Tryz.prog 155 #[.int .u8 (c.toNat:Int)] w fun e w'=>e=.returned (.bool (Idn.nameC c))∧w=w':=by
 have hL:=letter_any c w
 have hD:=digit_any c w
 cases h1:Idn.letter c<;>cases h2:Idn.digit c
 all_goals
  rw[h1]at hL
  rw[h2]at hD
  go_enter Tryz.func155,Tryz.ntmps155
  go_wp2_with (first|(go_at_call 156;refine hL.mono ?_;rintro e w' ⟨rfl,rfl⟩)|(go_at_call 157;refine hD.mono ?_;rintro e w' ⟨rfl,rfl⟩))
  go_ret
  refine ⟨?_,rfl⟩
  try simp[Idn.nameC,h1,h2]
  try exact byte_eq c 45
theorem idn_made_go (l:Bs) (x:UInt8) (h:Idn.nameC x=false):(x :: l).all Idn.nameC=false:=by simp[h]
theorem made_any (s : ByteArray) (w : World) (hs : s.size ≤ 1000000000000) :
  Calls Tryz.prog 154 #[.string s,.func (.func 155) #[] #[]] w fun e w'=>e=.returned (.bool (Idn.made (L s)))∧w=w':=by
 go_enter Tryz.func154,Tryz.ntmps154
 go_wp2
 go_loop [5,8] (fun _ i=>∃k:Nat,k≤s.size∧i=.int .i64 k∧Hid ((L s).all Idn.nameC=((L s).drop k).all Idn.nameC)) (fun _ i=>s.size-(intOf i).toNat)
 case atStart=>exact ⟨0,Nat.zero_le _,rfl,rfl⟩
 case round=>
  obtain ⟨k,hk,rfl,hinv⟩:=hrel
  by_cases hlt:k<s.size
  ·have hN:=nameC_any s[k] w
   cases hb:Idn.nameC s[k]
   ·rw[hb]at hN
    have hd:=drop_L s k hlt
    have HF:Hid ((L s).all Idn.nameC=false):=by rw[hinv.out,hd];exact idn_made_go _ _ hb
    clear hd hb
    go_wp2_with (go_at_call 155;refine hN.mono ?_;rintro e w' ⟨rfl,rfl⟩)
    go_ret
    refine ⟨?_,rfl⟩
    simp[Idn.made,HF.out]
   ·rw[hb]at hN
    have hd:=drop_L s k hlt
    have HF:Hid ((L s).all Idn.nameC=((L s).drop (k+1)).all Idn.nameC):=by show _=_;rw[hinv.out,hd];simp[hb]
    clear hd hb
    go_wp2_with (go_at_call 155;refine hN.mono ?_;rintro e w' ⟨rfl,rfl⟩)
    go_round
    case rel=>exact ⟨k+1,by omega,by go_num,HF⟩
    case measure=>simp[intOf];omega
  ·have HF:Hid ((L s).all Idn.nameC=true):=by show _=_;rw[hinv.out,List.drop_eq_nil_of_le (by have:=size_L s;omega)];rfl
   cases he:(L s).isEmpty
   all_goals
    have he':=he
    rw[←toList_L]at he'
    go_wp2
    go_ret
    refine ⟨?_,rfl⟩
    simp only[Idn.made,HF.out,he]
    simp[size_L]
    try exact decide_eq_decide.2 (by omega)
theorem name_any (s : ByteArray) (w : World) (hs : s.size ≤ 1000000000000) :
  Calls Tryz.prog 82 #[.string s] w fun e w'=>e=.returned (.bool (Idn.name (L s)))∧w=w':=by
 have hM:=made_any s w hs
 cases hm:Idn.made (L s)
 ·rw[hm]at hM
  go_enter Tryz.func82,Tryz.ntmps82
  go_wp2_with (go_at_call 154;refine hM.mono ?_;rintro e w' ⟨rfl,rfl⟩)
  go_ret
  exact ⟨by simp[Idn.name,hm],rfl⟩
 ·rw[hm]at hM
  have hpos:0<s.size:=made_pos s hm
  have hL:=letter_any s[0] w
  go_enter Tryz.func82,Tryz.ntmps82
  go_wp2_with (first|(go_at_call 154;refine hM.mono ?_;rintro e w' ⟨rfl,rfl⟩)|(go_at_call 156;refine hL.mono ?_;rintro e w' ⟨rfl,rfl⟩))
  go_ret
  exact ⟨ret_bool (by rw[Idn.name,hm,head_L s hpos];rfl),rfl⟩
theorem add32 (x:UInt8):bc (x+32)=Value.int .u8 (IntKind.u8.wrap ((x.toNat:Int)+32)):=by
 have h1:IntKind.u8.wrap ((x.toNat:Int)+32)=((x.toNat:Int)+32) % 256:=IntKind.wrap_u8' _
 rw[h1]
 simp[bc,UInt8.toNat_add]
theorem lower_mid (s:ByteArray) (k:Nat) (h:k<s.size):(Idn.lower ((L s).take k)++(L s).drop k)[k]?=some s[k]:=by
 have hl:(Idn.lower ((L s).take k)).length=k:=by rw[Idn.length_lower,List.length_take];have:=size_L s;omega
 rw[List.getElem?_append_right (by omega),hl,drop_L s k h]
 simp
theorem lower_len (s:ByteArray) (k:Nat):(Idn.lower ((L s).take k)++(L s).drop k).length=s.size:=by
 rw[List.length_append,Idn.length_lower,←List.length_append,List.take_append_drop,size_L]
theorem lower_no (s:ByteArray) (k:Nat) (h:k<s.size) (hu:Idn.up s[k]=false):Idn.lower ((L s).take (k+1))++(L s).drop (k+1)=Idn.lower ((L s).take k)++(L s).drop k:=by
 rw[take_L s k h,drop_L s k h]
 simp[Idn.lower,Idn.low,hu]
theorem lower_yes (s:ByteArray) (k:Nat) (h:k<s.size) (hu:Idn.up s[k]=true):Idn.lower ((L s).take (k+1))++(L s).drop (k+1)=(Idn.lower ((L s).take k)++(L s).drop k).set k (s[k]+32):=by
 have hl:(Idn.lower ((L s).take k)).length=k:=by rw[Idn.length_lower,List.length_take];have:=size_L s;omega
 rw[take_L s k h,drop_L s k h,List.set_append_right _ _ (by omega),hl]
 simp[Idn.lower,Idn.low,hu]
theorem lower_any (s : ByteArray) (w : World) (hs : s.size ≤ 1000000000000) :
  Calls Tryz.prog 125 #[.string s] w fun e w'=>e=.returned (.string (B (Idn.lower (L s))))∧Below w.heap.size w w':=by
 go_enter Tryz.func125,Tryz.ntmps125
 go_wp2_with (with_reducible refine wpList_bytes _ rfl _ 9 179 5 rfl Tryz.underlying9 Tryz.underlying179 Tryz.underlying5 s rfl ?_)
 intro w1 cap hrow hb1 hlt1
 go_wp2
 go_loopw [4,9] (fun _ i wr=>∃k:Nat,k≤s.size∧i=.int .i64 k∧ByteRow wr 5 w.heap.size (Idn.lower ((L s).take k)++(L s).drop k)∧Below w.heap.size w wr) (fun _ i _=>s.size-(intOf i).toNat)
 case atStart=>exact ⟨0,Nat.zero_le _,rfl,by simpa[Idn.lower]using hrow,hb1⟩
 case round=>
  obtain ⟨k,hk,rfl,hr,hb⟩:=hrel
  by_cases hlt:k<s.size
  ·have hc:=hr.cell (lower_mid s k hlt)
   have hf:=hr.frozen (i:=k) (by rw[lower_len];exact hlt)
   simp only[bc]at hc
   have hU:=upper_any s[k] wr
   cases hu:Idn.up s[k]
   ·rw[hu]at hU
    clear hrow hb1
    go_wp2_with (go_at_call 190;refine hU.mono ?_;rintro e w' ⟨rfl,rfl⟩)
    go_roundw
    case rel=>exact ⟨k+1,by omega,by go_num,by rw[lower_no s k hlt hu];exact hr,hb⟩
    case measure=>simp[intOf];omega
   ·rw[hu]at hU
    clear hrow hb1
    go_wp2_with (go_at_call 190;refine hU.mono ?_;rintro e w' ⟨rfl,rfl⟩)
    go_roundw
    case rel=>
     have hrr:=hr.set k (s[k]+32)
     rw[←lower_yes s k hlt hu]at hrr
     have e8:bc (s[k]+32)=Value.int .u8 (IntKind.u8.wrap ((s[k].toNat:Int)+32)):=add32 _
     rw[e8]at hrr
     refine ⟨k+1,by omega,by go_num,hrr,hb.setCell (p:=⟨w.heap.size,k,none⟩) (Nat.le_refl _) _⟩
    case measure=>simp[intOf];omega
  ·go_wp2_with (with_reducible refine wpList_str_row _ rfl _ 179 9 5 rfl Tryz.underlying179 Tryz.underlying9 Tryz.underlying5 w.heap.size s.size cap _ rfl ?_ hr ?_)
   ·rw[lower_len]
   ·go_wp2
    go_ret
    refine ⟨ret_str (congrArg B ?_),hb⟩
    have e1:(L s).take k=L s:=List.take_of_length_le (by have:=size_L s;omega)
    have e2:(L s).drop k=[]:=List.drop_eq_nil_of_le (by have:=size_L s;omega)
    rw[e1,e2,List.append_nil]
end Go.Proofs.YtbkkchhimhlhcaaGreatDoor
