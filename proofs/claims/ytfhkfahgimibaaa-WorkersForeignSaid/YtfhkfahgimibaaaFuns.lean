/- The functions, read into the evaluator's code. -/
import Derived.Test.YtfhkfahgimibaaaStep
import Derived.Test.YtfhkfahgimibaaaChecked
namespace Go.QL
open Go.Proofs.Try
/-- queuelab/queuelablaw37.WorkersMatchesReference -/
def m3 : MC :=
  .seq (.reg [g 12 <| .mv (kb false)]) <|
  .seq (.reg [g 23 <| .call 8 [],
     g 13 <| .mv (t 23)]) <|
  .seq (.reg [g 24 <| .mv (t 4),
     g 25 <| .mv (t 5),
     g 26 <| .call 9 [(t 24), (t 25)],
     g 14 <| .mv (t 26)]) <|
  .seq (.seq (.reg [g 27 <| .mv (t 14),
      g 28 <| .un .not (t 27)]) <|
   .cond (t 28) (.seq (.reg [g 29 <| .mv (t 13),
       g 12 <| .mv (t 29)]) <|
    .ret)
    (.skip)) <|
  .seq (.reg [g 31 <| .mv (t 0),
     g 32 <| .mv (t 1),
     g 33 <| .mv (t 2),
     g 34 <| .mv (t 3),
     g 35 <| .call 10 [(t 31), (t 32), (t 33), (t 34)],
     g 30 <| .mv (t 35),
     g 36 <| .ext 0 (t 30),
     g 37 <| .ext 1 (t 30),
     g 15 <| .mv (t 36),
     g 16 <| .mv (t 37)]) <|
  .seq (.reg [g 39 <| .mv (t 0),
     g 40 <| .mv (t 1),
     g 41 <| .mv (t 2),
     g 42 <| .mv (t 3),
     g 43 <| .call 11 [(t 39), (t 40), (t 41), (t 42)],
     g 38 <| .mv (t 43),
     g 44 <| .ext 0 (t 38),
     g 45 <| .ext 1 (t 38),
     g 17 <| .mv (t 44),
     g 18 <| .mv (t 45)]) <|
  .seq (.reg [g 47 <| .mv (t 4),
     g 48 <| .mv (t 5),
     g 49 <| .call 12 [(t 47), (t 48)],
     g 46 <| .mv (t 49),
     g 50 <| .ext 0 (t 46),
     g 51 <| .ext 1 (t 46),
     g 19 <| .alloc [(.int .i64 0), (.int .i64 0), (.int .u64 0), (.int .u64 0), (.slice none 0 0)],
     gn <| .store 5 (t 19) (t 50),
     g 20 <| .mv (t 51)]) <|
  .seq (.reg [g 53 <| .mv (t 4),
     g 54 <| .mv (t 5),
     g 55 <| .call 13 [(t 53), (t 54)],
     g 52 <| .mv (t 55),
     g 56 <| .ext 0 (t 52),
     g 57 <| .ext 1 (t 52),
     g 21 <| .alloc [(.int .i64 0), (.int .i64 0), (.int .u64 0), (.int .u64 0), (.slice none 0 0)],
     gn <| .store 5 (t 21) (t 56),
     g 22 <| .mv (t 57)]) <|
  .seq (.reg [g 58 <| .mv (t 13),
     g 59 <| .mv (t 58),
     gg 60 59 true <| .mv (t 15),
     gg 61 59 true <| .mv (t 17),
     gg 62 59 true <| .call 14 [(t 60), (t 61)],
     g 63 <| .pick (t 59) (t 62) (kb false),
     g 64 <| .mv (t 63),
     gg 65 64 true <| .mv (t 16),
     gg 66 64 true <| .mv (t 18),
     gg 67 64 true <| .bin .eql (t 65) (t 66),
     g 68 <| .pick (t 64) (t 67) (kb false),
     g 69 <| .mv (t 68),
     gg 70 69 true <| .load true 5 (t 19),
     gg 71 69 true <| .load true 5 (t 21),
     gg 72 69 true <| .call 15 [(t 70), (t 71)],
     g 73 <| .pick (t 69) (t 72) (kb false),
     g 74 <| .mv (t 73),
     gg 75 74 true <| .mv (t 20),
     gg 76 74 true <| .mv (t 22),
     gg 77 74 true <| .bin .eql (t 75) (t 76),
     g 78 <| .pick (t 74) (t 77) (kb false),
     g 12 <| .mv (t 78)]) <|
  .ret
theorem r3 : Reads Go.Proofs.Try.prog 3 m3 [.t 12] 79 := ⟨⟨Go.Proofs.Try.f3, _, Go.Proofs.Try.func3, rfl, rfl, by kernel_rfl, by kernel_rfl, by decide⟩⟩
/-- queuelab/queuelablaw37.WorkersCover -/
def m4 : MC :=
  .seq (.reg [g 8 <| .mv (kb false)]) <|
  .seq (.reg [g 19 <| .call 8 [],
     g 9 <| .mv (t 19)]) <|
  .seq (.reg [g 21 <| .mv (t 0),
     g 22 <| .mv (t 1),
     g 23 <| .mv (t 2),
     g 24 <| .mv (t 3),
     g 25 <| .call 10 [(t 21), (t 22), (t 23), (t 24)],
     g 20 <| .mv (t 25),
     g 26 <| .ext 0 (t 20),
     g 27 <| .ext 1 (t 20),
     g 10 <| .mv (t 26),
     g 11 <| .mv (t 27)]) <|
  .seq (.seq (.reg [g 28 <| .mv (t 11),
      g 29 <| .bin .neq (t 28) (k 0)]) <|
   .cond (t 29) (.seq (.reg [g 30 <| .mv (t 9),
       g 31 <| .mv (t 30),
       gg 32 31 true <| .mv (t 10),
       gg 33 31 true <| .len (t 32),
       gg 34 31 true <| .bin .eql (t 33) (k 0),
       g 35 <| .pick (t 31) (t 34) (kb false),
       g 8 <| .mv (t 35)]) <|
    .ret)
    (.skip)) <|
  .seq (.seq (.reg [g 36 <| .mv (t 10),
      g 37 <| .len (t 36),
      g 38 <| .mv (t 2),
      g 39 <| .bin .neq (t 37) (t 38),
      g 40 <| .mv (t 39),
      gg 41 40 false <| .mv (t 2),
      gg 42 40 false <| .bin .lss (t 41) (k 1),
      g 43 <| .pick (t 40) (kb true) (t 42),
      g 44 <| .mv (t 43),
      gg 45 44 false <| .mv (t 10),
      gg 46 44 false <| .iaddr 4 (t 45) (k 0),
      gg 47 44 false <| .faddr 2 (t 46),
      gg 48 44 false <| .load false 1 (t 47),
      gg 49 44 false <| .mv (t 0),
      gg 50 44 false <| .bin .neq (t 48) (t 49),
      g 51 <| .pick (t 44) (kb true) (t 50),
      g 52 <| .mv (t 51),
      gg 53 52 false <| .mv (t 10),
      gg 54 52 false <| .mv (t 2),
      gg 55 52 false <| .bin .sub (t 54) (k 1),
      gg 56 52 false <| .iaddr 4 (t 53) (t 55),
      gg 57 52 false <| .faddr 3 (t 56),
      gg 58 52 false <| .load false 1 (t 57),
      gg 59 52 false <| .mv (t 1),
      gg 60 52 false <| .bin .neq (t 58) (t 59),
      g 61 <| .pick (t 52) (kb true) (t 60)]) <|
   .cond (t 61) (.seq (.reg [g 8 <| .mv (kb false)]) <|
    .ret)
    (.skip)) <|
  .seq (.reg [g 12 <| .alloc [(.int .i64 0), (.int .i64 0), (.int .i64 0), (.int .i64 0), (.int .i64 0), (.int .i64 0), (.int .i64 0), (.int .i64 0)]]) <|
  .seq (.reg [g 62 <| .mv (t 1),
     g 63 <| .mv (t 0),
     g 64 <| .bin .sub (t 62) (t 63),
     g 13 <| .mv (t 64)]) <|
  .seq (.reg [g 14 <| .mv (k 0)]) <|
  .seq (.seq (.reg [g 15 <| .mv (k 0)]) <|
   .block 0 <|
    .loop <|
     .seq (.seq (.reg [g 65 <| .mv (t 15),
         g 66 <| .mv (t 10),
         g 67 <| .len (t 66),
         g 68 <| .bin .lss (t 65) (t 67)]) <|
      .cond (t 68) (.skip)
       (.exit 0)) <|
     .seq (.block 1 <|
       .seq (.reg [g 71 <| .mv (t 10),
          g 72 <| .mv (t 15),
          g 73 <| .iaddr 4 (t 71) (t 72),
          g 74 <| .load true 4 (t 73),
          g 16 <| .alloc [(.int .i64 0), (.int .i64 0), (.int .i64 0), (.int .i64 0)],
          gn <| .store 4 (t 16) (t 74)]) <|
       .seq (.seq (.draw [g 75 <| .faddr 0 (t 16),
           g 76 <| .load false 1 (t 75),
           g 77 <| .mv (t 15),
           g 78 <| .bin .neq (t 76) (t 77),
           g 79 <| .mv (t 78),
           gg 80 79 false <| .faddr 1 (t 16),
           gg 81 79 false <| .load false 1 (t 80),
           gg 82 79 false <| .bin .lss (t 81) (k 0),
           g 83 <| .pick (t 79) (kb true) (t 82),
           g 84 <| .mv (t 83),
           gg 85 84 false <| .faddr 1 (t 16),
           gg 86 84 false <| .load false 1 (t 85),
           gg 87 84 false <| .mv (t 3),
           gg 88 84 false <| .bin .geq (t 86) (t 87),
           g 89 <| .pick (t 84) (kb true) (t 88),
           g 90 <| .mv (t 89),
           gg 91 90 false <| .mv (t 3),
           gg 92 90 false <| .bin .gtr (t 91) (k 8),
           g 93 <| .pick (t 90) (kb true) (t 92),
           g 94 <| .mv (t 93),
           gg 95 94 false <| .mv (t 15),
           gg 96 94 false <| .bin .gtr (t 95) (k 0),
           gg 97 94 false <| .mv (t 96),
           gg 98 97 true <| .faddr 2 (t 16),
           gg 99 97 true <| .load false 1 (t 98),
           gg 100 97 true <| .mv (t 10),
           gg 101 97 true <| .mv (t 15),
           gg 102 97 true <| .bin .sub (t 101) (k 1),
           gg 103 97 true <| .iaddr 4 (t 100) (t 102),
           gg 104 97 true <| .faddr 3 (t 103),
           gg 105 97 true <| .load false 1 (t 104)]
          [gg 106 97 true <| .bin .neq (t 99) (t 105),
           gg 107 94 false <| .pick (t 97) (t 106) (kb false),
           g 108 <| .pick (t 94) (kb true) (t 107)]) <|
        .cond (t 108) (.seq (.reg [g 8 <| .mv (kb false)]) <|
         .ret)
         (.skip)) <|
       .seq (.reg [g 109 <| .faddr 1 (t 16),
          g 110 <| .load false 1 (t 109),
          g 111 <| .aaddr 8 1 (t 12) (t 110),
          g 112 <| .load false 1 (t 111),
          g 113 <| .bin .add (t 112) (k 1),
          g 114 <| .aaddr 8 1 (t 12) (t 110),
          gn <| .store 1 (t 114) (t 113)]) <|
       .seq (.reg [g 115 <| .mv (t 13),
          g 116 <| .faddr 3 (t 16),
          g 117 <| .load false 1 (t 116),
          g 118 <| .faddr 2 (t 16),
          g 119 <| .load false 1 (t 118),
          g 120 <| .bin .sub (t 117) (t 119),
          g 121 <| .mm false (t 115) (t 120),
          g 13 <| .mv (t 121)]) <|
       .reg [g 122 <| .mv (t 14),
         g 123 <| .faddr 3 (t 16),
         g 124 <| .load false 1 (t 123),
         g 125 <| .faddr 2 (t 16),
         g 126 <| .load false 1 (t 125),
         g 127 <| .bin .sub (t 124) (t 126),
         g 128 <| .mm true (t 122) (t 127),
         g 14 <| .mv (t 128)]) <|
     .reg [g 69 <| .mv (t 15),
       g 70 <| .bin .add (t 69) (k 1),
       g 15 <| .mv (t 70)]) <|
  .seq (.seq (.reg [g 17 <| .mv (k 0)]) <|
   .block 2 <|
    .loop <|
     .seq (.seq (.reg [g 129 <| .mv (t 17),
         g 130 <| .mv (t 3),
         g 131 <| .bin .lss (t 129) (t 130)]) <|
      .cond (t 131) (.skip)
       (.exit 2)) <|
     .seq (.block 3 <|
       .seq (.reg [g 18 <| .mv (k 0)]) <|
       .block 4 <|
        .loop <|
         .seq (.seq (.reg [g 134 <| .mv (t 18),
             g 135 <| .mv (t 3),
             g 136 <| .bin .lss (t 134) (t 135)]) <|
          .cond (t 136) (.skip)
           (.exit 4)) <|
         .seq (.block 5 <|
           .draw [g 139 <| .mv (t 9),
             g 140 <| .mv (t 139),
             gg 141 140 true <| .mv (t 17),
             gg 142 140 true <| .aaddr 8 1 (t 12) (t 141),
             gg 143 140 true <| .load false 1 (t 142),
             gg 144 140 true <| .mv (t 18),
             gg 145 140 true <| .aaddr 8 1 (t 12) (t 144),
             gg 146 140 true <| .load false 1 (t 145)]
            [gg 147 140 true <| .bin .sub (t 143) (t 146),
             gg 148 140 true <| .bin .leq (t 147) (k 1),
             g 149 <| .pick (t 140) (t 148) (kb false),
             g 9 <| .mv (t 149)]) <|
         .reg [g 137 <| .mv (t 18),
           g 138 <| .bin .add (t 137) (k 1),
           g 18 <| .mv (t 138)]) <|
     .reg [g 132 <| .mv (t 17),
       g 133 <| .bin .add (t 132) (k 1),
       g 17 <| .mv (t 133)]) <|
  .seq (.reg [g 150 <| .mv (t 9),
     g 151 <| .mv (t 150),
     gg 152 151 true <| .mv (t 13),
     gg 153 151 true <| .bin .geq (t 152) (k 1),
     g 154 <| .pick (t 151) (t 153) (kb false),
     g 155 <| .mv (t 154),
     gg 156 155 true <| .mv (t 14),
     gg 157 155 true <| .mv (t 13),
     gg 158 155 true <| .bin .sub (t 156) (t 157),
     gg 159 155 true <| .bin .leq (t 158) (k 1),
     g 160 <| .pick (t 155) (t 159) (kb false),
     g 8 <| .mv (t 160)]) <|
  .ret
theorem r4 : Reads Go.Proofs.Try.prog 4 m4 [.t 8] 161 := ⟨⟨Go.Proofs.Try.f4, _, Go.Proofs.Try.func4, rfl, rfl, by kernel_rfl, by kernel_rfl, by decide⟩⟩
/-- queuelab/queuelablaw37.WorkersOrder -/
def m5 : MC :=
  .seq (.reg [g 8 <| .mv (kb false)]) <|
  .seq (.reg [g 19 <| .call 8 [],
     g 9 <| .mv (t 19)]) <|
  .seq (.reg [g 20 <| .mv (t 0),
     g 21 <| .mv (t 1),
     g 22 <| .call 9 [(t 20), (t 21)],
     g 10 <| .mv (t 22)]) <|
  .seq (.seq (.reg [g 23 <| .mv (t 10),
      g 24 <| .un .not (t 23),
      g 25 <| .mv (t 24),
      gg 26 25 false <| .mv (t 2),
      gg 27 25 false <| .len (t 26),
      gg 28 25 false <| .bin .gtr (t 27) (k 40),
      g 29 <| .pick (t 25) (kb true) (t 28)]) <|
   .cond (t 29) (.seq (.reg [g 30 <| .mv (t 9),
       g 8 <| .mv (t 30)]) <|
    .ret)
    (.skip)) <|
  .seq (.reg [g 31 <| .mv (t 0),
     g 32 <| .len (t 31),
     g 33 <| .mks 4 32 [(.int .i64 0), (.int .i64 0), (.int .i64 0), (.int .i64 0)] (k 0) (t 32),
     g 34 <| .mv (t 0),
     g 35 <| .append 4 32 (t 33) (t 34),
     g 11 <| .mv (t 35)]) <|
  .seq (.seq (.reg [g 12 <| .mv (k 0)]) <|
   .block 0 <|
    .loop <|
     .seq (.seq (.reg [g 36 <| .mv (t 12),
         g 37 <| .mv (t 11),
         g 38 <| .len (t 37),
         g 39 <| .bin .lss (t 36) (t 38)]) <|
      .cond (t 39) (.skip)
       (.exit 0)) <|
     .seq (.block 1 <|
       .seq (.reg [g 42 <| .mv (t 11),
          g 43 <| .mv (t 12),
          g 44 <| .iaddr 4 (t 42) (t 43),
          g 45 <| .faddr 1 (t 44),
          g 46 <| .load false 1 (t 45),
          g 47 <| .bin .geq (t 46) (k 0),
          g 48 <| .mv (t 47),
          gg 49 48 true <| .mv (t 11),
          gg 50 48 true <| .mv (t 12),
          gg 51 48 true <| .iaddr 4 (t 49) (t 50),
          gg 52 48 true <| .faddr 1 (t 51),
          gg 53 48 true <| .load false 1 (t 52),
          gg 54 48 true <| .bin .lss (t 53) (k 8),
          g 55 <| .pick (t 48) (t 54) (kb false)]) <|
       .cond (t 55) (.reg [g 56 <| .mv (t 11),
          g 57 <| .mv (t 12),
          g 58 <| .mv (t 11),
          g 59 <| .mv (t 12),
          g 60 <| .iaddr 4 (t 58) (t 59),
          g 61 <| .faddr 1 (t 60),
          g 62 <| .load false 1 (t 61),
          g 63 <| .mv (t 3),
          g 64 <| .conv .i64 (t 63),
          g 65 <| .bin .add (t 62) (t 64),
          g 66 <| .bin .rem (t 65) (k 8),
          g 67 <| .iaddr 4 (t 56) (t 57),
          g 68 <| .faddr 1 (t 67),
          gn <| .store 1 (t 68) (t 66)])
        (.skip)) <|
     .reg [g 40 <| .mv (t 12),
       g 41 <| .bin .add (t 40) (k 1),
       g 12 <| .mv (t 41)]) <|
  .seq (.reg [g 70 <| .mv (t 0),
     g 71 <| .mv (t 1),
     g 72 <| .call 12 [(t 70), (t 71)],
     g 69 <| .mv (t 72),
     g 73 <| .ext 0 (t 69),
     g 74 <| .ext 1 (t 69),
     g 13 <| .alloc [(.int .i64 0), (.int .i64 0), (.int .u64 0), (.int .u64 0), (.slice none 0 0)],
     gn <| .store 5 (t 13) (t 73),
     g 14 <| .mv (t 74)]) <|
  .seq (.reg [g 76 <| .mv (t 11),
     g 77 <| .mv (t 1),
     g 78 <| .mv (t 2),
     g 79 <| .call 16 [(t 77), (t 78)],
     g 80 <| .call 12 [(t 76), (t 79)],
     g 75 <| .mv (t 80),
     g 81 <| .ext 0 (t 75),
     g 82 <| .ext 1 (t 75),
     g 15 <| .alloc [(.int .i64 0), (.int .i64 0), (.int .u64 0), (.int .u64 0), (.slice none 0 0)],
     gn <| .store 5 (t 15) (t 81),
     g 16 <| .mv (t 82)]) <|
  .seq (.seq (.reg [g 83 <| .mv (t 14),
      g 84 <| .bin .neq (t 83) (k 0)]) <|
   .cond (t 84) (.seq (.reg [g 85 <| .mv (t 9),
       g 86 <| .mv (t 85),
       gg 87 86 true <| .mv (t 14),
       gg 88 86 true <| .mv (t 16),
       gg 89 86 true <| .bin .eql (t 87) (t 88),
       g 90 <| .pick (t 86) (t 89) (kb false),
       g 8 <| .mv (t 90)]) <|
    .ret)
    (.skip)) <|
  .seq (.reg [g 92 <| .faddr 0 (t 13),
     g 93 <| .load false 1 (t 92),
     g 94 <| .faddr 1 (t 13),
     g 95 <| .load false 1 (t 94),
     g 96 <| .build [(.int .i64 0), (.int .i64 0), (.int .i64 0), (.int .i64 0)] [(2, 1, (t 93)), (3, 1, (t 95))],
     g 97 <| .bsl 4 1 [(.int .i64 0), (.int .i64 0), (.int .i64 0), (.int .i64 0)] [(0, 4, (t 96))],
     g 98 <| .load true 5 (t 13),
     g 99 <| .bsl 5 1 [(.int .i64 0), (.int .i64 0), (.int .u64 0), (.int .u64 0), (.slice none 0 0)] [(0, 5, (t 98))],
     g 100 <| .call 12 [(t 97), (t 99)],
     g 91 <| .mv (t 100),
     g 101 <| .ext 0 (t 91),
     g 102 <| .ext 1 (t 91),
     g 17 <| .alloc [(.int .i64 0), (.int .i64 0), (.int .u64 0), (.int .u64 0), (.slice none 0 0)],
     gn <| .store 5 (t 17) (t 101),
     g 18 <| .mv (t 102)]) <|
  .seq (.reg [g 103 <| .mv (t 9),
     g 104 <| .mv (t 103),
     gg 105 104 true <| .mv (t 16),
     gg 106 104 true <| .bin .eql (t 105) (k 0),
     g 107 <| .pick (t 104) (t 106) (kb false),
     g 108 <| .mv (t 107),
     gg 109 108 true <| .load true 5 (t 13),
     gg 110 108 true <| .load true 5 (t 15),
     gg 111 108 true <| .call 15 [(t 109), (t 110)],
     g 112 <| .pick (t 108) (t 111) (kb false),
     g 113 <| .mv (t 112),
     gg 114 113 true <| .mv (t 18),
     gg 115 113 true <| .bin .eql (t 114) (k 0),
     g 116 <| .pick (t 113) (t 115) (kb false),
     g 117 <| .mv (t 116),
     gg 118 117 true <| .load true 5 (t 13),
     gg 119 117 true <| .load true 5 (t 17),
     gg 120 117 true <| .call 15 [(t 118), (t 119)],
     g 121 <| .pick (t 117) (t 120) (kb false),
     g 8 <| .mv (t 121)]) <|
  .ret
theorem r5 : Reads Go.Proofs.Try.prog 5 m5 [.t 8] 122 := ⟨⟨Go.Proofs.Try.f5, _, Go.Proofs.Try.func5, rfl, rfl, by kernel_rfl, by kernel_rfl, by decide⟩⟩
/-- queuelab/queuelablaw37.WorkersForeign -/
def m7 : MC :=
  .seq (.reg [g 8 <| .mv (kb false)]) <|
  .seq (.reg [g 19 <| .call 8 [],
     g 9 <| .mv (t 19)]) <|
  .seq (.reg [g 20 <| .mv (t 0),
     g 21 <| .mv (t 1),
     g 22 <| .call 9 [(t 20), (t 21)],
     g 10 <| .mv (t 22)]) <|
  .seq (.reg [g 24 <| .mv (t 0),
     g 25 <| .mv (t 1),
     g 26 <| .call 12 [(t 24), (t 25)],
     g 23 <| .mv (t 26),
     g 27 <| .ext 0 (t 23),
     g 28 <| .ext 1 (t 23),
     g 11 <| .alloc [(.int .i64 0), (.int .i64 0), (.int .u64 0), (.int .u64 0), (.slice none 0 0)],
     gn <| .store 5 (t 11) (t 27),
     g 12 <| .mv (t 28)]) <|
  .seq (.seq (.reg [g 29 <| .mv (t 10),
      g 30 <| .un .not (t 29),
      g 31 <| .mv (t 30),
      gg 32 31 false <| .mv (t 12),
      gg 33 31 false <| .bin .neq (t 32) (k 0),
      g 34 <| .pick (t 31) (kb true) (t 33),
      g 35 <| .mv (t 34),
      gg 36 35 false <| .mv (t 1),
      gg 37 35 false <| .len (t 36),
      gg 38 35 false <| .bin .lss (t 37) (k 2),
      g 39 <| .pick (t 35) (kb true) (t 38),
      g 40 <| .mv (t 39),
      gg 41 40 false <| .mv (t 3),
      gg 42 40 false <| .bin .eql (t 41) (.const (.int .u64 0)),
      g 43 <| .pick (t 40) (kb true) (t 42)]) <|
   .cond (t 43) (.seq (.reg [g 44 <| .mv (t 9),
       g 8 <| .mv (t 44)]) <|
    .ret)
    (.skip)) <|
  .seq (.reg [g 45 <| .mv (t 2),
     g 46 <| .conv .i64 (t 45),
     g 47 <| .mv (t 1),
     g 48 <| .len (t 47),
     g 49 <| .bin .rem (t 46) (t 48),
     g 13 <| .mv (t 49)]) <|
  .seq (.reg [g 50 <| .mv (t 1),
     g 51 <| .len (t 50),
     g 52 <| .mks 5 56 [(.int .i64 0), (.int .i64 0), (.int .u64 0), (.int .u64 0), (.slice none 0 0)] (k 0) (t 51),
     g 53 <| .mv (t 1),
     g 54 <| .append 5 56 (t 52) (t 53),
     g 14 <| .mv (t 54)]) <|
  .seq (.seq (.draw [g 55 <| .mv (t 14),
      g 56 <| .mv (t 13),
      g 57 <| .iaddr 5 (t 55) (t 56),
      g 58 <| .faddr 0 (t 57),
      g 59 <| .load false 1 (t 58),
      g 60 <| .mv (t 0),
      g 61 <| .iaddr 4 (t 60) (k 0),
      g 62 <| .faddr 2 (t 61),
      g 63 <| .load false 1 (t 62)]
     [g 64 <| .bin .eql (t 59) (t 63)]) <|
   .cond (t 64) (.seq (.reg [g 65 <| .mv (t 9),
       g 8 <| .mv (t 65)]) <|
    .ret)
    (.skip)) <|
  .seq (.reg [g 66 <| .mv (t 14),
     g 67 <| .mv (t 13),
     g 68 <| .iaddr 5 (t 66) (t 67),
     g 69 <| .faddr 2 (t 68),
     g 70 <| .load false 1 (t 69),
     g 71 <| .mv (t 3),
     g 72 <| .bin .xor (t 70) (t 71),
     g 73 <| .iaddr 5 (t 66) (t 67),
     g 74 <| .faddr 2 (t 73),
     gn <| .store 1 (t 74) (t 72)]) <|
  .seq (.reg [g 75 <| .mv (t 14),
     g 76 <| .mv (t 13),
     g 77 <| .iaddr 5 (t 75) (t 76),
     g 78 <| .faddr 2 (t 77),
     g 79 <| .load false 1 (t 78),
     g 15 <| .mv (t 79)]) <|
  .seq (.seq (.reg [g 16 <| .mv (k 0)]) <|
   .block 0 <|
    .loop <|
     .seq (.seq (.reg [g 80 <| .mv (t 16),
         g 81 <| .mv (t 14),
         g 82 <| .mv (t 13),
         g 83 <| .iaddr 5 (t 81) (t 82),
         g 84 <| .faddr 4 (t 83),
         g 85 <| .load false 1 (t 84),
         g 86 <| .len (t 85),
         g 87 <| .bin .lss (t 80) (t 86)]) <|
      .cond (t 87) (.skip)
       (.exit 0)) <|
     .seq (.block 1 <|
       .reg [g 90 <| .mv (t 15),
         g 91 <| .mv (t 14),
         g 92 <| .mv (t 13),
         g 93 <| .iaddr 5 (t 91) (t 92),
         g 94 <| .faddr 4 (t 93),
         g 95 <| .load false 1 (t 94),
         g 96 <| .mv (t 16),
         g 97 <| .iaddr 11 (t 95) (t 96),
         g 98 <| .load true 11 (t 97),
         g 99 <| .call 17 [(t 90), (t 98)],
         g 15 <| .mv (t 99)]) <|
     .reg [g 88 <| .mv (t 16),
       g 89 <| .bin .add (t 88) (k 1),
       g 16 <| .mv (t 89)]) <|
  .seq (.reg [g 100 <| .mv (t 14),
     g 101 <| .mv (t 13),
     g 102 <| .mv (t 15),
     g 103 <| .iaddr 5 (t 100) (t 101),
     g 104 <| .faddr 3 (t 103),
     gn <| .store 1 (t 104) (t 102)]) <|
  .seq (.reg [g 106 <| .mv (t 0),
     g 107 <| .mv (t 14),
     g 108 <| .call 12 [(t 106), (t 107)],
     g 105 <| .mv (t 108),
     g 109 <| .ext 0 (t 105),
     g 110 <| .ext 1 (t 105),
     g 17 <| .alloc [(.int .i64 0), (.int .i64 0), (.int .u64 0), (.int .u64 0), (.slice none 0 0)],
     gn <| .store 5 (t 17) (t 109),
     g 18 <| .mv (t 110)]) <|
  .seq (.reg [g 111 <| .mv (t 9),
     g 112 <| .mv (t 111),
     gg 113 112 true <| .mv (t 18),
     gg 114 112 true <| .bin .eql (t 113) (k 11),
     g 115 <| .pick (t 112) (t 114) (kb false),
     g 8 <| .mv (t 115)]) <|
  .ret
theorem r7 : Reads Go.Proofs.Try.prog 7 m7 [.t 8] 116 := ⟨⟨Go.Proofs.Try.f7, _, Go.Proofs.Try.func7, rfl, rfl, by kernel_rfl, by kernel_rfl, by decide⟩⟩
/-- queuelab/queuelablaw37.head -/
def m8 : MC :=
  .seq (.reg [g 0 <| .mv (kb false)]) <|
  .seq (.reg [g 17 <| .call 10 [(k 0), (k 10), (k 3), (k 2)],
     g 16 <| .mv (t 17),
     g 18 <| .ext 0 (t 16),
     g 19 <| .ext 1 (t 16),
     g 1 <| .mv (t 18),
     g 2 <| .mv (t 19)]) <|
  .seq (.reg [g 21 <| .call 10 [(k 5), (k 7), (k 3), (k 1)],
     g 20 <| .mv (t 21),
     g 22 <| .ext 0 (t 20),
     g 23 <| .ext 1 (t 20),
     g 3 <| .mv (t 22),
     g 4 <| .mv (t 23)]) <|
  .seq (.reg [g 24 <| .mv (t 2),
     g 25 <| .bin .eql (t 24) (k 0),
     g 26 <| .mv (t 25),
     gg 27 26 true <| .mv (t 4),
     gg 28 26 true <| .bin .eql (t 27) (k 1),
     g 29 <| .pick (t 26) (t 28) (kb false),
     g 30 <| .mv (t 29),
     gg 31 30 true <| .mv (t 1),
     gg 32 30 true <| .build [(.int .i64 0), (.int .i64 0), (.int .i64 0), (.int .i64 0)] [(3, 1, (k 3))],
     gg 33 30 true <| .build [(.int .i64 0), (.int .i64 0), (.int .i64 0), (.int .i64 0)] [(0, 1, (k 1)), (1, 1, (k 1)), (2, 1, (k 3)), (3, 1, (k 6))],
     gg 34 30 true <| .build [(.int .i64 0), (.int .i64 0), (.int .i64 0), (.int .i64 0)] [(0, 1, (k 2)), (2, 1, (k 6)), (3, 1, (k 10))],
     gg 35 30 true <| .bsl 4 3 [(.int .i64 0), (.int .i64 0), (.int .i64 0), (.int .i64 0), (.int .i64 0), (.int .i64 0), (.int .i64 0), (.int .i64 0), (.int .i64 0), (.int .i64 0), (.int .i64 0), (.int .i64 0)] [(0, 4, (t 32)), (4, 4, (t 33)), (8, 4, (t 34))],
     gg 36 30 true <| .call 14 [(t 31), (t 35)],
     g 37 <| .pick (t 30) (t 36) (kb false),
     g 5 <| .mv (t 37)]) <|
  .seq (.reg [g 39 <| .mv (t 1),
     g 40 <| .call 18 [(k 6), (k 10)],
     g 41 <| .call 18 [(k 0), (k 3)],
     g 42 <| .call 18 [(k 3), (k 6)],
     g 43 <| .bsl 5 3 [(.int .i64 0), (.int .i64 0), (.int .u64 0), (.int .u64 0), (.slice none 0 0), (.int .i64 0), (.int .i64 0), (.int .u64 0), (.int .u64 0), (.slice none 0 0), (.int .i64 0), (.int .i64 0), (.int .u64 0), (.int .u64 0), (.slice none 0 0)] [(0, 5, (t 40)), (5, 5, (t 41)), (10, 5, (t 42))],
     g 44 <| .call 12 [(t 39), (t 43)],
     g 38 <| .mv (t 44),
     g 45 <| .ext 0 (t 38),
     g 46 <| .ext 1 (t 38),
     g 6 <| .alloc [(.int .i64 0), (.int .i64 0), (.int .u64 0), (.int .u64 0), (.slice none 0 0)],
     gn <| .store 5 (t 6) (t 45),
     g 7 <| .mv (t 46)]) <|
  .seq (.reg [g 48 <| .mv (t 1),
     g 49 <| .call 18 [(k 6), (k 10)],
     g 50 <| .call 18 [(k 0), (k 3)],
     g 51 <| .bsl 5 2 [(.int .i64 0), (.int .i64 0), (.int .u64 0), (.int .u64 0), (.slice none 0 0), (.int .i64 0), (.int .i64 0), (.int .u64 0), (.int .u64 0), (.slice none 0 0)] [(0, 5, (t 49)), (5, 5, (t 50))],
     g 52 <| .call 12 [(t 48), (t 51)],
     g 47 <| .mv (t 52),
     g 53 <| .ext 0 (t 47),
     g 54 <| .ext 1 (t 47),
     g 8 <| .alloc [(.int .i64 0), (.int .i64 0), (.int .u64 0), (.int .u64 0), (.slice none 0 0)],
     gn <| .store 5 (t 8) (t 53),
     g 9 <| .mv (t 54)]) <|
  .seq (.reg [g 56 <| .mv (t 1),
     g 57 <| .call 18 [(k 0), (k 3)],
     g 58 <| .call 18 [(k 0), (k 3)],
     g 59 <| .bsl 5 2 [(.int .i64 0), (.int .i64 0), (.int .u64 0), (.int .u64 0), (.slice none 0 0), (.int .i64 0), (.int .i64 0), (.int .u64 0), (.int .u64 0), (.slice none 0 0)] [(0, 5, (t 57)), (5, 5, (t 58))],
     g 60 <| .call 12 [(t 56), (t 59)],
     g 55 <| .mv (t 60),
     g 61 <| .ext 0 (t 55),
     g 62 <| .ext 1 (t 55),
     g 10 <| .alloc [(.int .i64 0), (.int .i64 0), (.int .u64 0), (.int .u64 0), (.slice none 0 0)],
     gn <| .store 5 (t 10) (t 61),
     g 11 <| .mv (t 62)]) <|
  .seq (.reg [g 64 <| .mv (t 1),
     g 65 <| .call 18 [(k 0), (k 4)],
     g 66 <| .bsl 5 1 [(.int .i64 0), (.int .i64 0), (.int .u64 0), (.int .u64 0), (.slice none 0 0)] [(0, 5, (t 65))],
     g 67 <| .call 12 [(t 64), (t 66)],
     g 63 <| .mv (t 67),
     g 68 <| .ext 0 (t 63),
     g 69 <| .ext 1 (t 63),
     g 12 <| .alloc [(.int .i64 0), (.int .i64 0), (.int .u64 0), (.int .u64 0), (.slice none 0 0)],
     gn <| .store 5 (t 12) (t 68),
     g 13 <| .mv (t 69)]) <|
  .seq (.reg [g 71 <| .mv (t 1),
     g 72 <| .call 18 [(k 4), (k 3)],
     g 73 <| .bsl 5 1 [(.int .i64 0), (.int .i64 0), (.int .u64 0), (.int .u64 0), (.slice none 0 0)] [(0, 5, (t 72))],
     g 74 <| .call 12 [(t 71), (t 73)],
     g 70 <| .mv (t 74),
     g 75 <| .ext 0 (t 70),
     g 76 <| .ext 1 (t 70),
     g 14 <| .alloc [(.int .i64 0), (.int .i64 0), (.int .u64 0), (.int .u64 0), (.slice none 0 0)],
     gn <| .store 5 (t 14) (t 75),
     g 15 <| .mv (t 76)]) <|
  .seq (.draw [g 77 <| .mv (t 5),
     g 78 <| .mv (t 77),
     gg 79 78 true <| .mv (t 7),
     gg 80 78 true <| .bin .eql (t 79) (k 0),
     g 81 <| .pick (t 78) (t 80) (kb false),
     g 82 <| .mv (t 81),
     gg 83 82 true <| .load true 5 (t 6),
     gg 84 82 true <| .call 18 [(k 0), (k 10)]]
    [gg 85 82 true <| .call 15 [(t 83), (t 84)],
     g 86 <| .pick (t 82) (t 85) (kb false),
     g 87 <| .mv (t 86),
     gg 88 87 true <| .mv (t 9),
     gg 89 87 true <| .bin .eql (t 88) (k 4),
     g 90 <| .pick (t 87) (t 89) (kb false),
     g 91 <| .mv (t 90),
     gg 92 91 true <| .mv (t 11),
     gg 93 91 true <| .bin .eql (t 92) (k 5),
     g 94 <| .pick (t 91) (t 93) (kb false),
     g 95 <| .mv (t 94),
     gg 96 95 true <| .mv (t 13),
     gg 97 95 true <| .bin .eql (t 96) (k 18),
     g 98 <| .pick (t 95) (t 97) (kb false),
     g 99 <| .mv (t 98),
     gg 100 99 true <| .mv (t 15),
     gg 101 99 true <| .bin .eql (t 100) (k 1),
     g 102 <| .pick (t 99) (t 101) (kb false),
     g 0 <| .mv (t 102)]) <|
  .ret
theorem r8 : Reads Go.Proofs.Try.prog 8 m8 [.t 0] 103 := ⟨⟨Go.Proofs.Try.f8, _, Go.Proofs.Try.func8, rfl, rfl, by kernel_rfl, by kernel_rfl, by decide⟩⟩
/-- queuelab/queuelablaw37.few -/
def m9 : MC :=
  .seq (.reg [g 4 <| .mv (kb false)]) <|
  .seq (.seq (.reg [g 5 <| .mv (k 0)]) <|
   .block 0 <|
    .loop <|
     .seq (.seq (.reg [g 7 <| .mv (t 5),
         g 8 <| .mv (t 1),
         g 9 <| .len (t 8),
         g 10 <| .bin .lss (t 7) (t 9)]) <|
      .cond (t 10) (.skip)
       (.exit 0)) <|
     .seq (.block 1 <|
       .seq (.reg [g 13 <| .mv (t 1),
          g 14 <| .mv (t 5),
          g 15 <| .iaddr 5 (t 13) (t 14),
          g 16 <| .load true 5 (t 15),
          g 17 <| .call 19 [(t 16)],
          g 6 <| .mv (t 17)]) <|
       .seq (.reg [g 18 <| .mv (t 6),
          g 19 <| .un .not (t 18)]) <|
       .cond (t 19) (.seq (.reg [g 4 <| .mv (kb false)]) <|
        .ret)
        (.skip)) <|
     .reg [g 11 <| .mv (t 5),
       g 12 <| .bin .add (t 11) (k 1),
       g 5 <| .mv (t 12)]) <|
  .seq (.reg [g 20 <| .mv (t 0),
     g 21 <| .len (t 20),
     g 22 <| .bin .leq (t 21) (k 40),
     g 23 <| .mv (t 22),
     gg 24 23 true <| .mv (t 1),
     gg 25 23 true <| .len (t 24),
     gg 26 23 true <| .bin .leq (t 25) (k 40),
     g 27 <| .pick (t 23) (t 26) (kb false),
     g 4 <| .mv (t 27)]) <|
  .ret
theorem r9 : Reads Go.Proofs.Try.prog 9 m9 [.t 4] 28 := ⟨⟨Go.Proofs.Try.f9, _, Go.Proofs.Try.func9, rfl, rfl, by kernel_rfl, by kernel_rfl, by decide⟩⟩
/-- queuelab/workers.Assign -/
def m10 : MC :=
  .seq (.reg [g 7 <| .box 1 (t 3),
     g 8 <| .mv (.const (.slice none 0 0)),
     g 9 <| .mv (k 0)]) <|
  .seq (.seq (.reg [g 13 <| .mv (t 0),
      g 14 <| .call 20 [(t 13), (k 0), (k 10000000)],
      g 15 <| .un .not (t 14),
      g 16 <| .mv (t 15),
      gg 17 16 false <| .mv (t 1),
      gg 18 16 false <| .call 20 [(t 17), (k 0), (k 10000000)],
      gg 19 16 false <| .un .not (t 18),
      g 20 <| .pick (t 16) (kb true) (t 19),
      g 21 <| .mv (t 20),
      gg 22 21 false <| .load false 1 (t 7),
      gg 23 21 false <| .call 20 [(t 22), (k 1), (k 8)],
      gg 24 21 false <| .un .not (t 23),
      g 25 <| .pick (t 21) (kb true) (t 24),
      g 26 <| .mv (t 25),
      gg 27 26 false <| .mv (t 2),
      gg 28 26 false <| .mv (t 1),
      gg 29 26 false <| .mv (t 0),
      gg 30 26 false <| .bin .sub (t 28) (t 29),
      gg 31 26 false <| .mm false (k 32) (t 30),
      gg 32 26 false <| .call 20 [(t 27), (k 1), (t 31)],
      gg 33 26 false <| .un .not (t 32),
      g 34 <| .pick (t 26) (kb true) (t 33)]) <|
   .cond (t 34) (.seq (.reg [g 8 <| .mv (.const (.slice none 0 0)),
       g 9 <| .mv (k 1)]) <|
    .ret)
    (.skip)) <|
  .seq (.reg [g 10 <| .alloc [(.slice none 0 0)]]) <|
  .seq (.seq (.reg [g 35 <| .mv (t 0),
      g 36 <| .mv (t 1),
      g 37 <| .mv (t 2),
      g 38 <| .call 21 [(t 35), (t 36), (t 37)]]) <|
   .block 0 <|
    .rng (t 38) [39, 40]
     (.seq (.reg [g 11 <| .mv (t 39)]) <|
      .reg [g 12 <| .alloc [(.int .i64 0), (.int .i64 0)],
        gn <| .store 2 (t 12) (t 40)])
     (.block 1 <|
       .draw [g 41 <| .load false 1 (t 10),
         g 42 <| .mv (t 11),
         g 43 <| .mv (t 11),
         g 44 <| .load false 1 (t 7),
         g 45 <| .bin .rem (t 43) (t 44),
         g 46 <| .faddr 0 (t 12),
         g 47 <| .load false 1 (t 46),
         g 48 <| .faddr 1 (t 12),
         g 49 <| .load false 1 (t 48),
         g 50 <| .build [(.int .i64 0), (.int .i64 0), (.int .i64 0), (.int .i64 0)] [(0, 1, (t 42)), (1, 1, (t 45)), (2, 1, (t 47)), (3, 1, (t 49))],
         g 51 <| .bsl 4 1 [(.int .i64 0), (.int .i64 0), (.int .i64 0), (.int .i64 0)] [(0, 4, (t 50))]]
        [g 52 <| .append 4 32 (t 41) (t 51),
         gn <| .store 1 (t 10) (t 52)])) <|
  .seq (.reg [g 53 <| .load false 1 (t 10),
     g 8 <| .mv (t 53),
     g 9 <| .mv (k 0)]) <|
  .ret
theorem r10 : Reads Go.Proofs.Try.prog 10 m10 [.t 8, .t 9] 54 := ⟨⟨Go.Proofs.Try.f10, _, Go.Proofs.Try.func10, rfl, rfl, by kernel_rfl, by kernel_rfl, by decide⟩⟩
/-- queuelab/queuelabref37.Assign -/
def m11 : MC :=
  .seq (.reg [g 8 <| .mv (.const (.slice none 0 0)),
     g 9 <| .mv (k 0)]) <|
  .seq (.reg [g 14 <| .mv (t 0),
     g 15 <| .call 22 [(t 14)],
     g 10 <| .mv (t 15)]) <|
  .seq (.reg [g 16 <| .mv (t 1),
     g 17 <| .call 22 [(t 16)],
     g 11 <| .mv (t 17)]) <|
  .seq (.seq (.reg [g 18 <| .mv (t 10),
      g 19 <| .un .not (t 18),
      g 20 <| .mv (t 19),
      gg 21 20 false <| .mv (t 11),
      gg 22 20 false <| .un .not (t 21),
      g 23 <| .pick (t 20) (kb true) (t 22),
      g 24 <| .mv (t 23),
      gg 25 24 false <| .mv (t 3),
      gg 26 24 false <| .bin .lss (t 25) (k 1),
      g 27 <| .pick (t 24) (kb true) (t 26),
      g 28 <| .mv (t 27),
      gg 29 28 false <| .mv (t 3),
      gg 30 28 false <| .bin .gtr (t 29) (k 8),
      g 31 <| .pick (t 28) (kb true) (t 30),
      g 32 <| .mv (t 31),
      gg 33 32 false <| .mv (t 2),
      gg 34 32 false <| .bin .lss (t 33) (k 1),
      g 35 <| .pick (t 32) (kb true) (t 34),
      g 36 <| .mv (t 35),
      gg 37 36 false <| .mv (t 2),
      gg 38 36 false <| .bin .gtr (t 37) (k 32),
      g 39 <| .pick (t 36) (kb true) (t 38),
      g 40 <| .mv (t 39),
      gg 41 40 false <| .mv (t 2),
      gg 42 40 false <| .mv (t 1),
      gg 43 40 false <| .mv (t 0),
      gg 44 40 false <| .bin .sub (t 42) (t 43),
      gg 45 40 false <| .bin .gtr (t 41) (t 44),
      g 46 <| .pick (t 40) (kb true) (t 45)]) <|
   .cond (t 46) (.seq (.reg [g 8 <| .mv (.const (.slice none 0 0)),
       g 9 <| .mv (k 1)]) <|
    .ret)
    (.skip)) <|
  .seq (.reg [g 12 <| .mv (.const (.slice none 0 0))]) <|
  .seq (.seq (.reg [g 13 <| .mv (k 0)]) <|
   .block 0 <|
    .loop <|
     .seq (.seq (.reg [g 47 <| .mv (t 13),
         g 48 <| .mv (t 2),
         g 49 <| .bin .lss (t 47) (t 48)]) <|
      .cond (t 49) (.skip)
       (.exit 0)) <|
     .seq (.block 1 <|
       .draw [g 52 <| .mv (t 12),
         g 53 <| .mv (t 13),
         g 54 <| .mv (t 13),
         g 55 <| .mv (t 3),
         g 56 <| .bin .rem (t 54) (t 55),
         g 57 <| .mv (t 0),
         g 58 <| .mv (t 1),
         g 59 <| .mv (t 0),
         g 60 <| .bin .sub (t 58) (t 59),
         g 61 <| .mv (t 13),
         g 62 <| .bin .mul (t 60) (t 61),
         g 63 <| .mv (t 2),
         g 64 <| .bin .quo (t 62) (t 63),
         g 65 <| .bin .add (t 57) (t 64),
         g 66 <| .mv (t 0),
         g 67 <| .mv (t 1),
         g 68 <| .mv (t 0),
         g 69 <| .bin .sub (t 67) (t 68),
         g 70 <| .mv (t 13),
         g 71 <| .bin .add (t 70) (k 1),
         g 72 <| .bin .mul (t 69) (t 71),
         g 73 <| .mv (t 2),
         g 74 <| .bin .quo (t 72) (t 73),
         g 75 <| .bin .add (t 66) (t 74),
         g 76 <| .build [(.int .i64 0), (.int .i64 0), (.int .i64 0), (.int .i64 0)] [(0, 1, (t 53)), (1, 1, (t 56)), (2, 1, (t 65)), (3, 1, (t 75))],
         g 77 <| .bsl 4 1 [(.int .i64 0), (.int .i64 0), (.int .i64 0), (.int .i64 0)] [(0, 4, (t 76))]]
        [g 78 <| .append 4 32 (t 52) (t 77),
         g 12 <| .mv (t 78)]) <|
     .reg [g 50 <| .mv (t 13),
       g 51 <| .bin .add (t 50) (k 1),
       g 13 <| .mv (t 51)]) <|
  .seq (.reg [g 79 <| .mv (t 12),
     g 8 <| .mv (t 79),
     g 9 <| .mv (k 0)]) <|
  .ret
theorem r11 : Reads Go.Proofs.Try.prog 11 m11 [.t 8, .t 9] 80 := ⟨⟨Go.Proofs.Try.f11, _, Go.Proofs.Try.func11, rfl, rfl, by kernel_rfl, by kernel_rfl, by decide⟩⟩
/-- queuelab/workers.Merge -/
def m12 : MC :=
  .seq (.reg [g 4 <| .alloc [(.int .i64 0), (.int .i64 0), (.int .u64 0), (.int .u64 0), (.slice none 0 0)],
     g 5 <| .mv (k 0)]) <|
  .seq (.seq (.reg [g 18 <| .mv (t 0),
      g 19 <| .call 23 [(t 18)],
      g 20 <| .un .not (t 19),
      g 21 <| .mv (t 20),
      gg 22 21 false <| .mv (t 1),
      gg 23 21 false <| .len (t 22),
      gg 24 21 false <| .bin .gtr (t 23) (k 32),
      g 25 <| .pick (t 21) (kb true) (t 24)]) <|
   .cond (t 25) (.seq (.reg [g 26 <| .build [(.int .i64 0), (.int .i64 0), (.int .u64 0), (.int .u64 0), (.slice none 0 0)] [],
       gn <| .store 5 (t 4) (t 26),
       g 5 <| .mv (k 1)]) <|
    .ret)
    (.skip)) <|
  .seq (.seq (.reg [g 27 <| .mv (t 1),
      g 28 <| .len (t 27),
      g 29 <| .mv (k 0)]) <|
   .block 0 <|
    .loop <|
     .seq (.reg [g 30 <| .bin .lss (t 29) (t 28)]) <|
     .seq (.cond (t 30) (.skip)
       (.exit 0)) <|
     .seq (.block 1 <|
       .seq (.reg [g 31 <| .iaddr 5 (t 27) (t 29),
          g 32 <| .load true 5 (t 31),
          g 7 <| .alloc [(.int .i64 0), (.int .i64 0), (.int .u64 0), (.int .u64 0), (.slice none 0 0)],
          gn <| .store 5 (t 7) (t 32)]) <|
       .seq (.reg [g 34 <| .load true 5 (t 7),
          g 35 <| .bsl 5 1 [(.int .i64 0), (.int .i64 0), (.int .u64 0), (.int .u64 0), (.slice none 0 0)] [(0, 5, (t 34))],
          g 36 <| .call 24 [(t 35)],
          g 33 <| .mv (t 36),
          g 37 <| .ext 0 (t 33),
          g 38 <| .ext 1 (t 33),
          g 8 <| .alloc [(.int .i64 0), (.int .i64 0), (.int .u64 0), (.int .u64 0), (.slice none 0 0)],
          gn <| .store 5 (t 8) (t 37),
          g 9 <| .mv (t 38)]) <|
       .seq (.reg [g 39 <| .mv (t 9),
          g 40 <| .bin .neq (t 39) (k 0)]) <|
       .cond (t 40) (.seq (.reg [g 41 <| .build [(.int .i64 0), (.int .i64 0), (.int .u64 0), (.int .u64 0), (.slice none 0 0)] [],
           gn <| .store 5 (t 4) (t 41),
           g 5 <| .mv (k 1)]) <|
        .ret)
        (.skip)) <|
     .reg [g 42 <| .bin .add (t 29) (k 1),
       g 29 <| .mv (t 42)]) <|
  .seq (.reg [g 43 <| .mv (t 0),
     g 44 <| .call 25 [(t 43)],
     g 10 <| .alloc [(.map none)],
     gn <| .store 1 (t 10) (t 44)]) <|
  .seq (.reg [g 45 <| .mkf (.func 26) [] [(t 10)],
     g 11 <| .alloc [.nilFunc],
     gn <| .store 1 (t 11) (t 45)]) <|
  .seq (.seq (.reg [g 46 <| .mv (t 1),
      g 47 <| .len (t 46),
      g 48 <| .mv (k 0)]) <|
   .block 2 <|
    .loop <|
     .seq (.reg [g 49 <| .bin .lss (t 48) (t 47)]) <|
     .seq (.cond (t 49) (.skip)
       (.exit 2)) <|
     .seq (.block 3 <|
       .seq (.reg [g 50 <| .iaddr 5 (t 46) (t 48),
          g 51 <| .load true 5 (t 50),
          g 13 <| .alloc [(.int .i64 0), (.int .i64 0), (.int .u64 0), (.int .u64 0), (.slice none 0 0)],
          gn <| .store 5 (t 13) (t 51)]) <|
       .seq (.reg [g 53 <| .load false 1 (t 10),
          g 54 <| .faddr 0 (t 13),
          g 55 <| .load false 1 (t 54),
          g 56 <| .faddr 1 (t 13),
          g 57 <| .load false 1 (t 56),
          g 58 <| .build [(.int .i64 0), (.int .i64 0)] [(0, 1, (t 55)), (1, 1, (t 57))],
          g 59 <| .lkp [0, 0] true (.int .i64 0) (t 53) (t 58),
          g 52 <| .mv (t 59),
          g 60 <| .ext 0 (t 52),
          g 61 <| .ext 1 (t 52),
          g 14 <| .mv (t 60),
          g 15 <| .mv (t 61)]) <|
       .seq (.reg [g 62 <| .mv (t 15),
          g 63 <| .un .not (t 62)]) <|
       .cond (t 63) (.seq (.reg [g 64 <| .build [(.int .i64 0), (.int .i64 0), (.int .u64 0), (.int .u64 0), (.slice none 0 0)] [],
           gn <| .store 5 (t 4) (t 64),
           g 5 <| .mv (k 18)]) <|
        .ret)
        (.skip)) <|
     .reg [g 65 <| .bin .add (t 48) (k 1),
       g 48 <| .mv (t 65)]) <|
  .seq (.reg [g 66 <| .mv (t 1),
     g 67 <| .call 28 [(t 66)],
     g 68 <| .mkf (.func 29) [] [(t 11)],
     g 69 <| .call 27 [(t 67), (t 68)],
     g 16 <| .mv (t 69)]) <|
  .seq (.seq (.reg [g 70 <| .mv (t 16),
      g 71 <| .len (t 70),
      g 72 <| .bin .sub (t 71) (k 1),
      g 73 <| .mv (k 0)]) <|
   .block 4 <|
    .loop <|
     .seq (.reg [g 74 <| .bin .lss (t 73) (t 72)]) <|
     .seq (.cond (t 74) (.skip)
       (.exit 4)) <|
     .seq (.block 5 <|
       .seq (.reg [g 75 <| .mv (t 73),
          g 17 <| .mv (t 75)]) <|
       .seq (.draw [g 76 <| .load false 1 (t 11),
          g 77 <| .mv (t 16),
          g 78 <| .mv (t 17),
          g 79 <| .iaddr 5 (t 77) (t 78),
          g 80 <| .load true 5 (t 79),
          g 81 <| .callv (t 76) [(t 80)],
          g 82 <| .load false 1 (t 11),
          g 83 <| .mv (t 16),
          g 84 <| .mv (t 17),
          g 85 <| .bin .add (t 84) (k 1),
          g 86 <| .iaddr 5 (t 83) (t 85),
          g 87 <| .load true 5 (t 86)]
         [g 88 <| .callv (t 82) [(t 87)],
          g 89 <| .bin .eql (t 81) (t 88)]) <|
       .cond (t 89) (.seq (.reg [g 90 <| .build [(.int .i64 0), (.int .i64 0), (.int .u64 0), (.int .u64 0), (.slice none 0 0)] [],
           gn <| .store 5 (t 4) (t 90),
           g 5 <| .mv (k 5)]) <|
        .ret)
        (.skip)) <|
     .reg [g 91 <| .bin .add (t 73) (k 1),
       g 73 <| .mv (t 91)]) <|
  .seq (.seq (.reg [g 92 <| .mv (t 1),
      g 93 <| .len (t 92),
      g 94 <| .mv (t 0),
      g 95 <| .len (t 94),
      g 96 <| .bin .lss (t 93) (t 95)]) <|
   .cond (t 96) (.seq (.reg [g 97 <| .build [(.int .i64 0), (.int .i64 0), (.int .u64 0), (.int .u64 0), (.slice none 0 0)] [],
       gn <| .store 5 (t 4) (t 97),
       g 5 <| .mv (k 4)]) <|
    .ret)
    (.skip)) <|
  .seq (.reg [g 98 <| .mv (t 16),
     g 99 <| .call 24 [(t 98)],
     g 100 <| .ext 0 (t 99),
     g 101 <| .ext 1 (t 99),
     gn <| .store 5 (t 4) (t 100),
     g 5 <| .mv (t 101)]) <|
  .ret
theorem r12 : Reads Go.Proofs.Try.prog 12 m12 [.c 4 true 5, .t 5] 102 := ⟨⟨Go.Proofs.Try.f12, _, Go.Proofs.Try.func12, rfl, rfl, by kernel_rfl, by kernel_rfl, by decide⟩⟩
/-- queuelab/queuelabref37.Merge -/
def m13 : MC :=
  .seq (.reg [g 4 <| .alloc [(.int .i64 0), (.int .i64 0), (.int .u64 0), (.int .u64 0), (.slice none 0 0)],
     g 5 <| .mv (k 0)]) <|
  .seq (.reg [g 15 <| .mv (t 0),
     g 16 <| .call 30 [(t 15)],
     g 6 <| .mv (t 16)]) <|
  .seq (.seq (.reg [g 17 <| .mv (t 6),
      g 18 <| .un .not (t 17),
      g 19 <| .mv (t 18),
      gg 20 19 false <| .mv (t 1),
      gg 21 19 false <| .len (t 20),
      gg 22 19 false <| .bin .gtr (t 21) (k 32),
      g 23 <| .pick (t 19) (kb true) (t 22)]) <|
   .cond (t 23) (.seq (.reg [g 24 <| .build [(.int .i64 0), (.int .i64 0), (.int .u64 0), (.int .u64 0), (.slice none 0 0)] [],
       gn <| .store 5 (t 4) (t 24),
       g 5 <| .mv (k 1)]) <|
    .ret)
    (.skip)) <|
  .seq (.seq (.reg [g 7 <| .mv (k 0)]) <|
   .block 0 <|
    .loop <|
     .seq (.seq (.reg [g 25 <| .mv (t 7),
         g 26 <| .mv (t 1),
         g 27 <| .len (t 26),
         g 28 <| .bin .lss (t 25) (t 27)]) <|
      .cond (t 28) (.skip)
       (.exit 0)) <|
     .seq (.block 1 <|
       .seq (.reg [g 31 <| .mv (t 1),
          g 32 <| .mv (t 7),
          g 33 <| .iaddr 5 (t 31) (t 32),
          g 34 <| .load true 5 (t 33),
          g 35 <| .call 31 [(t 34)],
          g 8 <| .mv (t 35)]) <|
       .seq (.reg [g 36 <| .mv (t 8),
          g 37 <| .un .not (t 36)]) <|
       .cond (t 37) (.seq (.reg [g 38 <| .build [(.int .i64 0), (.int .i64 0), (.int .u64 0), (.int .u64 0), (.slice none 0 0)] [],
           gn <| .store 5 (t 4) (t 38),
           g 5 <| .mv (k 1)]) <|
        .ret)
        (.skip)) <|
     .reg [g 29 <| .mv (t 7),
       g 30 <| .bin .add (t 29) (k 1),
       g 7 <| .mv (t 30)]) <|
  .seq (.reg [g 39 <| .mv (t 0),
     g 40 <| .len (t 39),
     g 41 <| .mks 1 8 [(.int .i64 0)] (t 40) (t 40),
     g 9 <| .mv (t 41)]) <|
  .seq (.reg [g 42 <| .mv (t 0),
     g 43 <| .len (t 42),
     g 44 <| .mks 5 56 [(.int .i64 0), (.int .i64 0), (.int .u64 0), (.int .u64 0), (.slice none 0 0)] (t 43) (t 43),
     g 10 <| .mv (t 44)]) <|
  .seq (.seq (.reg [g 11 <| .mv (k 0)]) <|
   .block 2 <|
    .loop <|
     .seq (.seq (.reg [g 45 <| .mv (t 11),
         g 46 <| .mv (t 1),
         g 47 <| .len (t 46),
         g 48 <| .bin .lss (t 45) (t 47)]) <|
      .cond (t 48) (.skip)
       (.exit 2)) <|
     .seq (.block 3 <|
       .seq (.reg [g 51 <| .mv (t 0),
          g 52 <| .mv (t 1),
          g 53 <| .mv (t 11),
          g 54 <| .iaddr 5 (t 52) (t 53),
          g 55 <| .load true 5 (t 54),
          g 56 <| .call 32 [(t 51), (t 55)],
          g 12 <| .mv (t 56)]) <|
       .seq (.seq (.reg [g 57 <| .mv (t 12),
           g 58 <| .bin .lss (t 57) (k 0)]) <|
        .cond (t 58) (.seq (.reg [g 59 <| .build [(.int .i64 0), (.int .i64 0), (.int .u64 0), (.int .u64 0), (.slice none 0 0)] [],
            gn <| .store 5 (t 4) (t 59),
            g 5 <| .mv (k 18)]) <|
         .ret)
         (.skip)) <|
       .seq (.reg [g 60 <| .mv (t 9),
          g 61 <| .mv (t 12),
          g 62 <| .iaddr 1 (t 60) (t 61),
          g 63 <| .load false 1 (t 62),
          g 64 <| .bin .add (t 63) (k 1),
          g 65 <| .iaddr 1 (t 60) (t 61),
          gn <| .store 1 (t 65) (t 64)]) <|
       .reg [g 66 <| .mv (t 10),
         g 67 <| .mv (t 12),
         g 68 <| .mv (t 1),
         g 69 <| .mv (t 11),
         g 70 <| .iaddr 5 (t 68) (t 69),
         g 71 <| .load true 5 (t 70),
         g 72 <| .iaddr 5 (t 66) (t 67),
         gn <| .store 5 (t 72) (t 71)]) <|
     .reg [g 49 <| .mv (t 11),
       g 50 <| .bin .add (t 49) (k 1),
       g 11 <| .mv (t 50)]) <|
  .seq (.seq (.reg [g 13 <| .mv (k 0)]) <|
   .block 4 <|
    .loop <|
     .seq (.seq (.reg [g 73 <| .mv (t 13),
         g 74 <| .mv (t 9),
         g 75 <| .len (t 74),
         g 76 <| .bin .lss (t 73) (t 75)]) <|
      .cond (t 76) (.skip)
       (.exit 4)) <|
     .seq (.block 5 <|
       .seq (.reg [g 79 <| .mv (t 9),
          g 80 <| .mv (t 13),
          g 81 <| .iaddr 1 (t 79) (t 80),
          g 82 <| .load false 1 (t 81),
          g 83 <| .bin .gtr (t 82) (k 1)]) <|
       .cond (t 83) (.seq (.reg [g 84 <| .build [(.int .i64 0), (.int .i64 0), (.int .u64 0), (.int .u64 0), (.slice none 0 0)] [],
           gn <| .store 5 (t 4) (t 84),
           g 5 <| .mv (k 5)]) <|
        .ret)
        (.skip)) <|
     .reg [g 77 <| .mv (t 13),
       g 78 <| .bin .add (t 77) (k 1),
       g 13 <| .mv (t 78)]) <|
  .seq (.seq (.reg [g 14 <| .mv (k 0)]) <|
   .block 6 <|
    .loop <|
     .seq (.seq (.reg [g 85 <| .mv (t 14),
         g 86 <| .mv (t 9),
         g 87 <| .len (t 86),
         g 88 <| .bin .lss (t 85) (t 87)]) <|
      .cond (t 88) (.skip)
       (.exit 6)) <|
     .seq (.block 7 <|
       .seq (.reg [g 91 <| .mv (t 9),
          g 92 <| .mv (t 14),
          g 93 <| .iaddr 1 (t 91) (t 92),
          g 94 <| .load false 1 (t 93),
          g 95 <| .bin .eql (t 94) (k 0)]) <|
       .cond (t 95) (.seq (.reg [g 96 <| .build [(.int .i64 0), (.int .i64 0), (.int .u64 0), (.int .u64 0), (.slice none 0 0)] [],
           gn <| .store 5 (t 4) (t 96),
           g 5 <| .mv (k 4)]) <|
        .ret)
        (.skip)) <|
     .reg [g 89 <| .mv (t 14),
       g 90 <| .bin .add (t 89) (k 1),
       g 14 <| .mv (t 90)]) <|
  .seq (.reg [g 97 <| .mv (t 10),
     g 98 <| .call 33 [(t 97)],
     g 99 <| .ext 0 (t 98),
     g 100 <| .ext 1 (t 98),
     gn <| .store 5 (t 4) (t 99),
     g 5 <| .mv (t 100)]) <|
  .ret
theorem r13 : Reads Go.Proofs.Try.prog 13 m13 [.c 4 true 5, .t 5] 101 := ⟨⟨Go.Proofs.Try.f13, _, Go.Proofs.Try.func13, rfl, rfl, by kernel_rfl, by kernel_rfl, by decide⟩⟩
/-- queuelab/queuelabref37.Same -/
def m14 : MC :=
  .seq (.reg [g 4 <| .mv (kb false)]) <|
  .seq (.seq (.reg [g 6 <| .mv (t 0),
      g 7 <| .len (t 6),
      g 8 <| .mv (t 1),
      g 9 <| .len (t 8),
      g 10 <| .bin .neq (t 7) (t 9)]) <|
   .cond (t 10) (.seq (.reg [g 4 <| .mv (kb false)]) <|
    .ret)
    (.skip)) <|
  .seq (.seq (.reg [g 5 <| .mv (k 0)]) <|
   .block 0 <|
    .loop <|
     .seq (.seq (.reg [g 11 <| .mv (t 5),
         g 12 <| .mv (t 0),
         g 13 <| .len (t 12),
         g 14 <| .bin .lss (t 11) (t 13)]) <|
      .cond (t 14) (.skip)
       (.exit 0)) <|
     .seq (.block 1 <|
       .seq (.draw [g 17 <| .mv (t 0),
          g 18 <| .mv (t 5),
          g 19 <| .iaddr 4 (t 17) (t 18),
          g 20 <| .load true 4 (t 19),
          g 21 <| .mv (t 1),
          g 22 <| .mv (t 5),
          g 23 <| .iaddr 4 (t 21) (t 22),
          g 24 <| .load true 4 (t 23)]
         [g 25 <| .beqs true [0, 0, 0, 0] (t 20) (t 24)]) <|
       .cond (t 25) (.seq (.reg [g 4 <| .mv (kb false)]) <|
        .ret)
        (.skip)) <|
     .reg [g 15 <| .mv (t 5),
       g 16 <| .bin .add (t 15) (k 1),
       g 5 <| .mv (t 16)]) <|
  .seq (.reg [g 4 <| .mv (kb true)]) <|
  .ret
theorem r14 : Reads Go.Proofs.Try.prog 14 m14 [.t 4] 26 := ⟨⟨Go.Proofs.Try.f14, _, Go.Proofs.Try.func14, rfl, rfl, by kernel_rfl, by kernel_rfl, by decide⟩⟩
/-- queuelab/queuelabref34.Same -/
def m15 : MC :=
  .seq (.reg [g 2 <| .box 5 (t 0),
     g 3 <| .box 5 (t 1),
     g 4 <| .mv (kb false)]) <|
  .seq (.reg [g 5 <| .faddr 0 (t 2),
     g 6 <| .load false 1 (t 5),
     g 7 <| .faddr 0 (t 3),
     g 8 <| .load false 1 (t 7),
     g 9 <| .bin .eql (t 6) (t 8),
     g 10 <| .mv (t 9),
     gg 11 10 true <| .faddr 1 (t 2),
     gg 12 10 true <| .load false 1 (t 11),
     gg 13 10 true <| .faddr 1 (t 3),
     gg 14 10 true <| .load false 1 (t 13),
     gg 15 10 true <| .bin .eql (t 12) (t 14),
     g 16 <| .pick (t 10) (t 15) (kb false),
     g 17 <| .mv (t 16),
     gg 18 17 true <| .faddr 2 (t 2),
     gg 19 17 true <| .load false 1 (t 18),
     gg 20 17 true <| .faddr 2 (t 3),
     gg 21 17 true <| .load false 1 (t 20),
     gg 22 17 true <| .bin .eql (t 19) (t 21),
     g 23 <| .pick (t 17) (t 22) (kb false),
     g 24 <| .mv (t 23),
     gg 25 24 true <| .faddr 3 (t 2),
     gg 26 24 true <| .load false 1 (t 25),
     gg 27 24 true <| .faddr 3 (t 3),
     gg 28 24 true <| .load false 1 (t 27),
     gg 29 24 true <| .bin .eql (t 26) (t 28),
     g 30 <| .pick (t 24) (t 29) (kb false),
     g 31 <| .mv (t 30),
     gg 32 31 true <| .faddr 4 (t 2),
     gg 33 31 true <| .load false 1 (t 32),
     gg 34 31 true <| .faddr 4 (t 3),
     gg 35 31 true <| .load false 1 (t 34),
     gg 36 31 true <| .call 34 [(t 33), (t 35)],
     g 37 <| .pick (t 31) (t 36) (kb false),
     g 4 <| .mv (t 37)]) <|
  .ret
theorem r15 : Reads Go.Proofs.Try.prog 15 m15 [.t 4] 38 := ⟨⟨Go.Proofs.Try.f15, _, Go.Proofs.Try.func15, rfl, rfl, by kernel_rfl, by kernel_rfl, by decide⟩⟩
/-- queuelab/queuelabref32.Digest -/
def m17 : MC :=
  .seq (.reg [g 3 <| .box 11 (t 1),
     g 4 <| .mv (.const (.int .u64 0))]) <|
  .seq (.reg [g 5 <| .mv (k 0)]) <|
  .seq (.seq (.reg [g 8 <| .faddr 3 (t 3),
      g 9 <| .faddr 6 (t 8),
      g 10 <| .load false 1 (t 9)]) <|
   .cond (t 10) (.reg [g 11 <| .mv (t 5),
      g 12 <| .bin .add (t 11) (k 1),
      g 5 <| .mv (t 12)])
    (.skip)) <|
  .seq (.seq (.reg [g 13 <| .faddr 3 (t 3),
      g 14 <| .faddr 7 (t 13),
      g 15 <| .load false 1 (t 14)]) <|
   .cond (t 15) (.reg [g 16 <| .mv (t 5),
      g 17 <| .bin .add (t 16) (k 2),
      g 5 <| .mv (t 17)])
    (.skip)) <|
  .seq (.reg [g 18 <| .faddr 0 (t 3),
     g 19 <| .load false 1 (t 18),
     g 20 <| .faddr 1 (t 3),
     g 21 <| .load false 1 (t 20),
     g 22 <| .faddr 2 (t 3),
     g 23 <| .load false 1 (t 22),
     g 24 <| .faddr 3 (t 3),
     g 25 <| .faddr 0 (t 24),
     g 26 <| .load false 1 (t 25),
     g 27 <| .faddr 3 (t 3),
     g 28 <| .faddr 1 (t 27),
     g 29 <| .load false 1 (t 28),
     g 30 <| .faddr 3 (t 3),
     g 31 <| .faddr 2 (t 30),
     g 32 <| .load false 1 (t 31),
     g 33 <| .faddr 3 (t 3),
     g 34 <| .faddr 3 (t 33),
     g 35 <| .load false 1 (t 34),
     g 36 <| .faddr 3 (t 3),
     g 37 <| .faddr 4 (t 36),
     g 38 <| .load false 1 (t 37),
     g 39 <| .faddr 3 (t 3),
     g 40 <| .faddr 5 (t 39),
     g 41 <| .load false 1 (t 40),
     g 42 <| .mv (t 5),
     g 43 <| .bsl 1 10 [(.int .i64 0), (.int .i64 0), (.int .i64 0), (.int .i64 0), (.int .i64 0), (.int .i64 0), (.int .i64 0), (.int .i64 0), (.int .i64 0), (.int .i64 0)] [(0, 1, (t 19)), (1, 1, (t 21)), (2, 1, (t 23)), (3, 1, (t 26)), (4, 1, (t 29)), (5, 1, (t 32)), (6, 1, (t 35)), (7, 1, (t 38)), (8, 1, (t 41)), (9, 1, (t 42))],
     g 6 <| .mv (t 43)]) <|
  .seq (.seq (.reg [g 7 <| .mv (k 0)]) <|
   .block 0 <|
    .loop <|
     .seq (.seq (.reg [g 44 <| .mv (t 7),
         g 45 <| .mv (t 6),
         g 46 <| .len (t 45),
         g 47 <| .bin .lss (t 44) (t 46)]) <|
      .cond (t 47) (.skip)
       (.exit 0)) <|
     .seq (.block 1 <|
       .reg [g 50 <| .mv (t 0),
         g 51 <| .mv (t 6),
         g 52 <| .mv (t 7),
         g 53 <| .iaddr 1 (t 51) (t 52),
         g 54 <| .load false 1 (t 53),
         g 55 <| .call 35 [(t 50), (t 54)],
         g 0 <| .mv (t 55)]) <|
     .reg [g 48 <| .mv (t 7),
       g 49 <| .bin .add (t 48) (k 1),
       g 7 <| .mv (t 49)]) <|
  .seq (.reg [g 56 <| .mv (t 0),
     g 4 <| .mv (t 56)]) <|
  .ret
theorem r17 : Reads Go.Proofs.Try.prog 17 m17 [.t 4] 57 := ⟨⟨Go.Proofs.Try.f17, _, Go.Proofs.Try.func17, rfl, rfl, by kernel_rfl, by kernel_rfl, by decide⟩⟩
/-- queuelab/queuelablaw37.empty -/
def m18 : MC :=
  .seq (.reg [g 4 <| .alloc [(.int .i64 0), (.int .i64 0), (.int .u64 0), (.int .u64 0), (.slice none 0 0)]]) <|
  .seq (.reg [g 5 <| .mv (t 0),
     g 6 <| .mv (t 1),
     g 7 <| .build [(.int .i64 0), (.int .i64 0), (.int .u64 0), (.int .u64 0), (.slice none 0 0)] [(0, 1, (t 5)), (1, 1, (t 6)), (2, 1, (.const (.int .u64 7))), (3, 1, (.const (.int .u64 7)))],
     gn <| .store 5 (t 4) (t 7)]) <|
  .ret
theorem r18 : Reads Go.Proofs.Try.prog 18 m18 [.c 4 true 5] 8 := ⟨⟨Go.Proofs.Try.f18, _, Go.Proofs.Try.func18, rfl, rfl, by kernel_rfl, by kernel_rfl, by decide⟩⟩
/-- queuelab/queuelabref34.Few -/
def m19 : MC :=
  .seq (.reg [g 1 <| .box 5 (t 0),
     g 2 <| .mv (kb false)]) <|
  .seq (.reg [g 3 <| .faddr 4 (t 1),
     g 4 <| .load false 1 (t 3),
     g 5 <| .len (t 4),
     g 6 <| .bin .leq (t 5) (k 5100),
     g 2 <| .mv (t 6)]) <|
  .ret
theorem r19 : Reads Go.Proofs.Try.prog 19 m19 [.t 2] 7 := ⟨⟨Go.Proofs.Try.f19, _, Go.Proofs.Try.func19, rfl, rfl, by kernel_rfl, by kernel_rfl, by decide⟩⟩
/-- queuelab/workers.in -/
def m20 : MC :=
  .seq (.reg [g 6 <| .mv (kb false)]) <|
  .seq (.reg [g 7 <| .mv (t 0),
     g 8 <| .mv (t 1),
     g 9 <| .bin .geq (t 7) (t 8),
     g 10 <| .mv (t 9),
     gg 11 10 true <| .mv (t 0),
     gg 12 10 true <| .mv (t 2),
     gg 13 10 true <| .bin .leq (t 11) (t 12),
     g 14 <| .pick (t 10) (t 13) (kb false),
     g 6 <| .mv (t 14)]) <|
  .ret
theorem r20 : Reads Go.Proofs.Try.prog 20 m20 [.t 6] 15 := ⟨⟨Go.Proofs.Try.f20, _, Go.Proofs.Try.func20, rfl, rfl, by kernel_rfl, by kernel_rfl, by decide⟩⟩
/-- queuelab/workers.divided -/
def m21 : MC :=
  .seq (.reg [g 3 <| .box 1 (t 0),
     g 4 <| .box 1 (t 1),
     g 5 <| .box 1 (t 2),
     g 6 <| .mv (.const .nilFunc)]) <|
  .seq (.reg [g 8 <| .mkf (.func 36) [] [(t 3), (t 4), (t 5)],
     g 7 <| .alloc [.nilFunc],
     gn <| .store 1 (t 7) (t 8)]) <|
  .seq (.reg [g 9 <| .mkf (.func 37) [] [(t 5), (t 7)],
     g 6 <| .mv (t 9)]) <|
  .ret
theorem r21 : Reads Go.Proofs.Try.prog 21 m21 [.t 6] 10 := ⟨⟨Go.Proofs.Try.f21, _, Go.Proofs.Try.func21, rfl, rfl, by kernel_rfl, by kernel_rfl, by decide⟩⟩
/-- queuelab/queuelabref18.Time -/
def m22 : MC :=
  .seq (.reg [g 2 <| .mv (kb false)]) <|
  .seq (.reg [g 3 <| .mv (t 0),
     g 4 <| .bin .geq (t 3) (k 0),
     g 5 <| .mv (t 4),
     gg 6 5 true <| .mv (t 0),
     gg 7 5 true <| .bin .leq (t 6) (k 10000000),
     g 8 <| .pick (t 5) (t 7) (kb false),
     g 2 <| .mv (t 8)]) <|
  .ret
theorem r22 : Reads Go.Proofs.Try.prog 22 m22 [.t 2] 9 := ⟨⟨Go.Proofs.Try.f22, _, Go.Proofs.Try.func22, rfl, rfl, by kernel_rfl, by kernel_rfl, by decide⟩⟩
/-- queuelab/workers.isList -/
def m23 : MC :=
  .seq (.reg [g 2 <| .mv (kb false)]) <|
  .seq (.seq (.reg [g 5 <| .mv (t 0),
      g 6 <| .len (t 5),
      g 7 <| .mv (k 0)]) <|
   .block 0 <|
    .loop <|
     .seq (.reg [g 8 <| .bin .lss (t 7) (t 6)]) <|
     .seq (.cond (t 8) (.skip)
       (.exit 0)) <|
     .seq (.block 1 <|
       .seq (.reg [g 9 <| .mv (t 7),
          g 10 <| .iaddr 4 (t 5) (t 7),
          g 11 <| .load true 4 (t 10),
          g 4 <| .alloc [(.int .i64 0), (.int .i64 0), (.int .i64 0), (.int .i64 0)],
          g 3 <| .mv (t 9),
          gn <| .store 4 (t 4) (t 11)]) <|
       .seq (.draw [g 12 <| .faddr 0 (t 4),
          g 13 <| .load false 1 (t 12),
          g 14 <| .mv (t 3),
          g 15 <| .bin .neq (t 13) (t 14),
          g 16 <| .mv (t 15),
          gg 17 16 false <| .faddr 1 (t 4),
          gg 18 16 false <| .load false 1 (t 17),
          gg 19 16 false <| .call 20 [(t 18), (k 0), (k 7)],
          gg 20 16 false <| .un .not (t 19),
          g 21 <| .pick (t 16) (kb true) (t 20),
          g 22 <| .mv (t 21),
          gg 23 22 false <| .faddr 2 (t 4),
          gg 24 22 false <| .load false 1 (t 23),
          gg 25 22 false <| .bin .lss (t 24) (k 0),
          g 26 <| .pick (t 22) (kb true) (t 25),
          g 27 <| .mv (t 26),
          gg 28 27 false <| .faddr 2 (t 4),
          gg 29 27 false <| .load false 1 (t 28),
          gg 30 27 false <| .faddr 3 (t 4),
          gg 31 27 false <| .load false 1 (t 30),
          gg 32 27 false <| .bin .geq (t 29) (t 31),
          g 33 <| .pick (t 27) (kb true) (t 32),
          g 34 <| .mv (t 33),
          gg 35 34 false <| .faddr 3 (t 4),
          gg 36 34 false <| .load false 1 (t 35),
          gg 37 34 false <| .bin .gtr (t 36) (k 10000000),
          g 38 <| .pick (t 34) (kb true) (t 37),
          g 39 <| .mv (t 38),
          gg 40 39 false <| .mv (t 3),
          gg 41 39 false <| .bin .gtr (t 40) (k 0),
          gg 42 39 false <| .mv (t 41),
          gg 43 42 true <| .faddr 2 (t 4),
          gg 44 42 true <| .load false 1 (t 43),
          gg 45 42 true <| .mv (t 0),
          gg 46 42 true <| .mv (t 3),
          gg 47 42 true <| .bin .sub (t 46) (k 1),
          gg 48 42 true <| .iaddr 4 (t 45) (t 47),
          gg 49 42 true <| .faddr 3 (t 48),
          gg 50 42 true <| .load false 1 (t 49)]
         [gg 51 42 true <| .bin .neq (t 44) (t 50),
          gg 52 39 false <| .pick (t 42) (t 51) (kb false),
          g 53 <| .pick (t 39) (kb true) (t 52)]) <|
       .cond (t 53) (.seq (.reg [g 2 <| .mv (kb false)]) <|
        .ret)
        (.skip)) <|
     .reg [g 54 <| .bin .add (t 7) (k 1),
       g 7 <| .mv (t 54)]) <|
  .seq (.reg [g 55 <| .mv (t 0),
     g 56 <| .len (t 55),
     g 57 <| .call 20 [(t 56), (k 1), (k 32)],
     g 2 <| .mv (t 57)]) <|
  .ret
theorem r23 : Reads Go.Proofs.Try.prog 23 m23 [.t 2] 58 := ⟨⟨Go.Proofs.Try.f23, _, Go.Proofs.Try.func23, rfl, rfl, by kernel_rfl, by kernel_rfl, by decide⟩⟩
/-- queuelab/cut.Join -/
def m24 : MC :=
  .seq (.reg [g 2 <| .alloc [(.int .i64 0), (.int .i64 0), (.int .u64 0), (.int .u64 0), (.slice none 0 0)],
     g 3 <| .mv (k 0)]) <|
  .seq (.seq (.reg [g 9 <| .mv (t 0),
      g 10 <| .len (t 9),
      g 11 <| .bin .eql (t 10) (k 0),
      g 12 <| .mv (t 11),
      gg 13 12 false <| .mv (t 0),
      gg 14 12 false <| .len (t 13),
      gg 15 12 false <| .bin .gtr (t 14) (k 32),
      g 16 <| .pick (t 12) (kb true) (t 15)]) <|
   .cond (t 16) (.seq (.reg [g 17 <| .build [(.int .i64 0), (.int .i64 0), (.int .u64 0), (.int .u64 0), (.slice none 0 0)] [],
       gn <| .store 5 (t 2) (t 17),
       g 3 <| .mv (k 1)]) <|
    .ret)
    (.skip)) <|
  .seq (.seq (.reg [g 18 <| .mv (t 0),
      g 19 <| .len (t 18),
      g 20 <| .mv (k 0)]) <|
   .block 0 <|
    .loop <|
     .seq (.reg [g 21 <| .bin .lss (t 20) (t 19)]) <|
     .seq (.cond (t 21) (.skip)
       (.exit 0)) <|
     .seq (.block 1 <|
       .seq (.reg [g 22 <| .iaddr 5 (t 18) (t 20),
          g 23 <| .load true 5 (t 22),
          g 5 <| .alloc [(.int .i64 0), (.int .i64 0), (.int .u64 0), (.int .u64 0), (.slice none 0 0)],
          gn <| .store 5 (t 5) (t 23)]) <|
       .seq (.reg [g 24 <| .load true 5 (t 5),
          g 25 <| .call 38 [(t 24)],
          g 26 <| .un .not (t 25)]) <|
       .cond (t 26) (.seq (.reg [g 27 <| .build [(.int .i64 0), (.int .i64 0), (.int .u64 0), (.int .u64 0), (.slice none 0 0)] [],
           gn <| .store 5 (t 2) (t 27),
           g 3 <| .mv (k 1)]) <|
        .ret)
        (.skip)) <|
     .reg [g 28 <| .bin .add (t 20) (k 1),
       g 20 <| .mv (t 28)]) <|
  .seq (.seq (.reg [g 29 <| .mv (t 0),
      g 30 <| .call 39 [(.func 40), (t 29)],
      g 31 <| .un .not (t 30)]) <|
   .cond (t 31) (.seq (.reg [g 32 <| .build [(.int .i64 0), (.int .i64 0), (.int .u64 0), (.int .u64 0), (.slice none 0 0)] [],
       gn <| .store 5 (t 2) (t 32),
       g 3 <| .mv (k 18)]) <|
    .ret)
    (.skip)) <|
  .seq (.seq (.reg [g 33 <| .mv (t 0),
      g 34 <| .call 39 [(.func 41), (t 33)],
      g 35 <| .un .not (t 34)]) <|
   .cond (t 35) (.seq (.reg [g 36 <| .build [(.int .i64 0), (.int .i64 0), (.int .u64 0), (.int .u64 0), (.slice none 0 0)] [],
       gn <| .store 5 (t 2) (t 36),
       g 3 <| .mv (k 11)]) <|
    .ret)
    (.skip)) <|
  .seq (.draw [g 37 <| .mv (t 0),
     g 38 <| .iaddr 5 (t 37) (k 0),
     g 39 <| .faddr 0 (t 38),
     g 40 <| .load false 1 (t 39),
     g 41 <| .mv (t 0),
     g 42 <| .mv (t 0),
     g 43 <| .len (t 42),
     g 44 <| .bin .sub (t 43) (k 1),
     g 45 <| .iaddr 5 (t 41) (t 44),
     g 46 <| .faddr 1 (t 45),
     g 47 <| .load false 1 (t 46),
     g 48 <| .mv (t 0),
     g 49 <| .iaddr 5 (t 48) (k 0),
     g 50 <| .faddr 2 (t 49),
     g 51 <| .load false 1 (t 50),
     g 52 <| .mv (t 0),
     g 53 <| .mv (t 0),
     g 54 <| .len (t 53),
     g 55 <| .bin .sub (t 54) (k 1),
     g 56 <| .iaddr 5 (t 52) (t 55),
     g 57 <| .faddr 3 (t 56),
     g 58 <| .load false 1 (t 57),
     g 59 <| .build [(.int .i64 0), (.int .i64 0), (.int .u64 0), (.int .u64 0), (.slice none 0 0)] [(0, 1, (t 40)), (1, 1, (t 47)), (2, 1, (t 51)), (3, 1, (t 58))],
     g 6 <| .alloc [(.int .i64 0), (.int .i64 0), (.int .u64 0), (.int .u64 0), (.slice none 0 0)]]
    [gn <| .store 5 (t 6) (t 59)]) <|
  .seq (.seq (.reg [g 60 <| .mv (t 0),
      g 61 <| .len (t 60),
      g 62 <| .mv (k 0)]) <|
   .block 2 <|
    .loop <|
     .seq (.reg [g 63 <| .bin .lss (t 62) (t 61)]) <|
     .seq (.cond (t 63) (.skip)
       (.exit 2)) <|
     .seq (.block 3 <|
       .seq (.reg [g 64 <| .iaddr 5 (t 60) (t 62),
          g 65 <| .load true 5 (t 64),
          g 8 <| .alloc [(.int .i64 0), (.int .i64 0), (.int .u64 0), (.int .u64 0), (.slice none 0 0)],
          gn <| .store 5 (t 8) (t 65)]) <|
       .reg [g 66 <| .faddr 4 (t 6),
         g 67 <| .load false 1 (t 66),
         g 68 <| .faddr 4 (t 8),
         g 69 <| .load false 1 (t 68),
         g 70 <| .append 11 80 (t 67) (t 69),
         g 71 <| .faddr 4 (t 6),
         gn <| .store 1 (t 71) (t 70)]) <|
     .reg [g 72 <| .bin .add (t 62) (k 1),
       g 62 <| .mv (t 72)]) <|
  .seq (.seq (.reg [g 73 <| .faddr 4 (t 6),
      g 74 <| .load false 1 (t 73),
      g 75 <| .len (t 74),
      g 76 <| .bin .gtr (t 75) (k 5000)]) <|
   .cond (t 76) (.seq (.reg [g 77 <| .build [(.int .i64 0), (.int .i64 0), (.int .u64 0), (.int .u64 0), (.slice none 0 0)] [],
       gn <| .store 5 (t 2) (t 77),
       g 3 <| .mv (k 2)]) <|
    .ret)
    (.skip)) <|
  .seq (.reg [g 78 <| .load true 5 (t 6),
     gn <| .store 5 (t 2) (t 78),
     g 3 <| .mv (k 0)]) <|
  .ret
theorem r24 : Reads Go.Proofs.Try.prog 24 m24 [.c 2 true 5, .t 3] 79 := ⟨⟨Go.Proofs.Try.f24, _, Go.Proofs.Try.func24, rfl, rfl, by kernel_rfl, by kernel_rfl, by decide⟩⟩
/-- queuelab/workers.places -/
def m25 : MC :=
  .seq (.reg [g 2 <| .mv (.const (.map none))]) <|
  .seq (.reg [g 6 <| .mkm,
     g 3 <| .mv (t 6)]) <|
  .seq (.seq (.reg [g 7 <| .mv (t 0),
      g 8 <| .len (t 7),
      g 9 <| .mv (k 0)]) <|
   .block 0 <|
    .loop <|
     .seq (.reg [g 10 <| .bin .lss (t 9) (t 8)]) <|
     .seq (.cond (t 10) (.skip)
       (.exit 0)) <|
     .seq (.block 1 <|
       .seq (.reg [g 11 <| .mv (t 9),
          g 12 <| .iaddr 4 (t 7) (t 9),
          g 13 <| .load true 4 (t 12),
          g 5 <| .alloc [(.int .i64 0), (.int .i64 0), (.int .i64 0), (.int .i64 0)],
          g 4 <| .mv (t 11),
          gn <| .store 4 (t 5) (t 13)]) <|
       .reg [g 14 <| .mv (t 3),
         g 15 <| .faddr 2 (t 5),
         g 16 <| .load false 1 (t 15),
         g 17 <| .faddr 3 (t 5),
         g 18 <| .load false 1 (t 17),
         g 19 <| .build [(.int .i64 0), (.int .i64 0)] [(0, 1, (t 16)), (1, 1, (t 18))],
         g 20 <| .mv (t 4),
         gn <| .mset [0, 0] (t 14) (t 19) (t 20)]) <|
     .reg [g 21 <| .bin .add (t 9) (k 1),
       g 9 <| .mv (t 21)]) <|
  .seq (.reg [g 22 <| .mv (t 3),
     g 2 <| .mv (t 22)]) <|
  .ret
theorem r25 : Reads Go.Proofs.Try.prog 25 m25 [.t 2] 23 := ⟨⟨Go.Proofs.Try.f25, _, Go.Proofs.Try.func25, rfl, rfl, by kernel_rfl, by kernel_rfl, by decide⟩⟩
/-- queuelab/workers.Merge$1 -/
def m26 : MC :=
  .seq (.reg [g 2 <| .box 5 (t 0),
     g 3 <| .mv (k 0)]) <|
  .seq (.reg [g 4 <| .load false 1 (t 1),
     g 5 <| .faddr 0 (t 2),
     g 6 <| .load false 1 (t 5),
     g 7 <| .faddr 1 (t 2),
     g 8 <| .load false 1 (t 7),
     g 9 <| .build [(.int .i64 0), (.int .i64 0)] [(0, 1, (t 6)), (1, 1, (t 8))],
     g 10 <| .lkp [0, 0] false (.int .i64 0) (t 4) (t 9),
     g 3 <| .mv (t 10)]) <|
  .ret
theorem r26 : Reads Go.Proofs.Try.prog 26 m26 [.t 3] 11 := ⟨⟨Go.Proofs.Try.f26, _, Go.Proofs.Try.func26, rfl, rfl, by kernel_rfl, by kernel_rfl, by decide⟩⟩
/-- slices.SortedFunc[queuelab/api.Segment] -/
def m27 : MC :=
  .seq (.reg [g 4 <| .mv (.const (.slice none 0 0))]) <|
  .seq (.reg [g 6 <| .mv (t 0),
     g 7 <| .call 42 [(t 6)],
     g 5 <| .mv (t 7)]) <|
  .seq (.reg [g 8 <| .mv (t 5),
     g 9 <| .mv (t 1),
     g 10 <| .call 43 [(t 8), (t 9)]]) <|
  .seq (.reg [g 11 <| .mv (t 5),
     g 4 <| .mv (t 11)]) <|
  .ret
theorem r27 : Reads Go.Proofs.Try.prog 27 m27 [.t 4] 12 := ⟨⟨Go.Proofs.Try.f27, _, Go.Proofs.Try.func27, rfl, rfl, by kernel_rfl, by kernel_rfl, by decide⟩⟩
/-- slices.Values[[]queuelab/api.Segment,queuelab/api.Segment] -/
def m28 : MC :=
  .seq (.reg [g 1 <| .box 1 (t 0),
     g 2 <| .mv (.const .nilFunc)]) <|
  .seq (.reg [g 3 <| .mkf (.func 44) [] [(t 1)],
     g 2 <| .mv (t 3)]) <|
  .ret
theorem r28 : Reads Go.Proofs.Try.prog 28 m28 [.t 2] 4 := ⟨⟨Go.Proofs.Try.f28, _, Go.Proofs.Try.func28, rfl, rfl, by kernel_rfl, by kernel_rfl, by decide⟩⟩
/-- queuelab/workers.Merge$2 -/
def m29 : MC :=
  .seq (.reg [g 3 <| .box 5 (t 0),
     g 4 <| .box 5 (t 1),
     g 5 <| .mv (k 0)]) <|
  .seq (.draw [g 6 <| .load false 1 (t 2),
     g 7 <| .load true 5 (t 3),
     g 8 <| .callv (t 6) [(t 7)],
     g 9 <| .load false 1 (t 2),
     g 10 <| .load true 5 (t 4)]
    [g 11 <| .callv (t 9) [(t 10)],
     g 12 <| .bin .sub (t 8) (t 11),
     g 5 <| .mv (t 12)]) <|
  .ret
theorem r29 : Reads Go.Proofs.Try.prog 29 m29 [.t 5] 13 := ⟨⟨Go.Proofs.Try.f29, _, Go.Proofs.Try.func29, rfl, rfl, by kernel_rfl, by kernel_rfl, by decide⟩⟩
/-- queuelab/queuelabref37.Tasks -/
def m30 : MC :=
  .seq (.reg [g 2 <| .mv (kb false)]) <|
  .seq (.seq (.reg [g 3 <| .mv (k 0)]) <|
   .block 0 <|
    .loop <|
     .seq (.seq (.reg [g 7 <| .mv (t 3),
         g 8 <| .mv (t 0),
         g 9 <| .len (t 8),
         g 10 <| .bin .lss (t 7) (t 9)]) <|
      .cond (t 10) (.skip)
       (.exit 0)) <|
     .seq (.block 1 <|
       .seq (.reg [g 13 <| .mv (t 0),
          g 14 <| .mv (t 3),
          g 15 <| .iaddr 4 (t 13) (t 14),
          g 16 <| .load true 4 (t 15),
          g 4 <| .alloc [(.int .i64 0), (.int .i64 0), (.int .i64 0), (.int .i64 0)],
          gn <| .store 4 (t 4) (t 16)]) <|
       .seq (.reg [g 17 <| .faddr 2 (t 4),
          g 18 <| .load false 1 (t 17),
          g 19 <| .call 22 [(t 18)],
          g 5 <| .mv (t 19)]) <|
       .seq (.reg [g 20 <| .faddr 3 (t 4),
          g 21 <| .load false 1 (t 20),
          g 22 <| .call 22 [(t 21)],
          g 6 <| .mv (t 22)]) <|
       .seq (.seq (.reg [g 23 <| .mv (t 5),
           g 24 <| .un .not (t 23),
           g 25 <| .mv (t 24),
           gg 26 25 false <| .mv (t 6),
           gg 27 25 false <| .un .not (t 26),
           g 28 <| .pick (t 25) (kb true) (t 27),
           g 29 <| .mv (t 28),
           gg 30 29 false <| .faddr 2 (t 4),
           gg 31 29 false <| .load false 1 (t 30),
           gg 32 29 false <| .faddr 3 (t 4),
           gg 33 29 false <| .load false 1 (t 32),
           gg 34 29 false <| .bin .geq (t 31) (t 33),
           g 35 <| .pick (t 29) (kb true) (t 34),
           g 36 <| .mv (t 35),
           gg 37 36 false <| .faddr 0 (t 4),
           gg 38 36 false <| .load false 1 (t 37),
           gg 39 36 false <| .mv (t 3),
           gg 40 36 false <| .bin .neq (t 38) (t 39),
           g 41 <| .pick (t 36) (kb true) (t 40),
           g 42 <| .mv (t 41),
           gg 43 42 false <| .faddr 1 (t 4),
           gg 44 42 false <| .load false 1 (t 43),
           gg 45 42 false <| .bin .lss (t 44) (k 0),
           g 46 <| .pick (t 42) (kb true) (t 45),
           g 47 <| .mv (t 46),
           gg 48 47 false <| .faddr 1 (t 4),
           gg 49 47 false <| .load false 1 (t 48),
           gg 50 47 false <| .bin .gtr (t 49) (k 7),
           g 51 <| .pick (t 47) (kb true) (t 50)]) <|
        .cond (t 51) (.seq (.reg [g 2 <| .mv (kb false)]) <|
         .ret)
         (.skip)) <|
       .seq (.draw [g 52 <| .mv (t 3),
          g 53 <| .bin .gtr (t 52) (k 0),
          g 54 <| .mv (t 53),
          gg 55 54 true <| .mv (t 0),
          gg 56 54 true <| .mv (t 3),
          gg 57 54 true <| .bin .sub (t 56) (k 1),
          gg 58 54 true <| .iaddr 4 (t 55) (t 57),
          gg 59 54 true <| .faddr 3 (t 58),
          gg 60 54 true <| .load false 1 (t 59),
          gg 61 54 true <| .faddr 2 (t 4),
          gg 62 54 true <| .load false 1 (t 61)]
         [gg 63 54 true <| .bin .neq (t 60) (t 62),
          g 64 <| .pick (t 54) (t 63) (kb false)]) <|
       .cond (t 64) (.seq (.reg [g 2 <| .mv (kb false)]) <|
        .ret)
        (.skip)) <|
     .reg [g 11 <| .mv (t 3),
       g 12 <| .bin .add (t 11) (k 1),
       g 3 <| .mv (t 12)]) <|
  .seq (.reg [g 65 <| .mv (t 0),
     g 66 <| .len (t 65),
     g 67 <| .bin .geq (t 66) (k 1),
     g 68 <| .mv (t 67),
     gg 69 68 true <| .mv (t 0),
     gg 70 68 true <| .len (t 69),
     gg 71 68 true <| .bin .leq (t 70) (k 32),
     g 72 <| .pick (t 68) (t 71) (kb false),
     g 2 <| .mv (t 72)]) <|
  .ret
theorem r30 : Reads Go.Proofs.Try.prog 30 m30 [.t 2] 73 := ⟨⟨Go.Proofs.Try.f30, _, Go.Proofs.Try.func30, rfl, rfl, by kernel_rfl, by kernel_rfl, by decide⟩⟩
/-- queuelab/queuelabref34.Valid -/
def m31 : MC :=
  .seq (.reg [g 1 <| .box 5 (t 0),
     g 2 <| .mv (kb false)]) <|
  .seq (.seq (.reg [g 6 <| .faddr 0 (t 1),
      g 7 <| .load false 1 (t 6),
      g 8 <| .bin .lss (t 7) (k 0),
      g 9 <| .mv (t 8),
      gg 10 9 false <| .faddr 0 (t 1),
      gg 11 9 false <| .load false 1 (t 10),
      gg 12 9 false <| .faddr 1 (t 1),
      gg 13 9 false <| .load false 1 (t 12),
      gg 14 9 false <| .bin .gtr (t 11) (t 13),
      g 15 <| .pick (t 9) (kb true) (t 14),
      g 16 <| .mv (t 15),
      gg 17 16 false <| .faddr 1 (t 1),
      gg 18 16 false <| .load false 1 (t 17),
      gg 19 16 false <| .bin .gtr (t 18) (k 10000000),
      g 20 <| .pick (t 16) (kb true) (t 19),
      g 21 <| .mv (t 20),
      gg 22 21 false <| .faddr 4 (t 1),
      gg 23 21 false <| .load false 1 (t 22),
      gg 24 21 false <| .len (t 23),
      gg 25 21 false <| .bin .gtr (t 24) (k 5000),
      g 26 <| .pick (t 21) (kb true) (t 25)]) <|
   .cond (t 26) (.seq (.reg [g 2 <| .mv (kb false)]) <|
    .ret)
    (.skip)) <|
  .seq (.reg [g 27 <| .faddr 2 (t 1),
     g 28 <| .load false 1 (t 27),
     g 3 <| .mv (t 28)]) <|
  .seq (.seq (.reg [g 4 <| .mv (k 0)]) <|
   .block 0 <|
    .loop <|
     .seq (.seq (.reg [g 29 <| .mv (t 4),
         g 30 <| .faddr 4 (t 1),
         g 31 <| .load false 1 (t 30),
         g 32 <| .len (t 31),
         g 33 <| .bin .lss (t 29) (t 32)]) <|
      .cond (t 33) (.skip)
       (.exit 0)) <|
     .seq (.block 1 <|
       .seq (.reg [g 36 <| .faddr 4 (t 1),
          g 37 <| .load false 1 (t 36),
          g 38 <| .mv (t 4),
          g 39 <| .iaddr 11 (t 37) (t 38),
          g 40 <| .load true 11 (t 39),
          g 5 <| .alloc [(.int .i64 0), (.int .i64 0), (.int .i64 0), (.int .i64 0), (.int .i64 0), (.int .i64 0), (.int .i64 0), (.int .i64 0), (.int .i64 0), (.bool false), (.bool false)],
          gn <| .store 11 (t 5) (t 40)]) <|
       .seq (.seq (.draw [g 41 <| .faddr 0 (t 5),
           g 42 <| .load false 1 (t 41),
           g 43 <| .faddr 0 (t 1),
           g 44 <| .load false 1 (t 43),
           g 45 <| .bin .lss (t 42) (t 44),
           g 46 <| .mv (t 45),
           gg 47 46 false <| .faddr 0 (t 5),
           gg 48 46 false <| .load false 1 (t 47),
           gg 49 46 false <| .faddr 1 (t 1),
           gg 50 46 false <| .load false 1 (t 49),
           gg 51 46 false <| .bin .geq (t 48) (t 50),
           g 52 <| .pick (t 46) (kb true) (t 51),
           g 53 <| .mv (t 52),
           gg 54 53 false <| .mv (t 4),
           gg 55 53 false <| .bin .gtr (t 54) (k 0),
           gg 56 53 false <| .mv (t 55),
           gg 57 56 true <| .faddr 0 (t 5),
           gg 58 56 true <| .load false 1 (t 57),
           gg 59 56 true <| .faddr 4 (t 1),
           gg 60 56 true <| .load false 1 (t 59),
           gg 61 56 true <| .mv (t 4),
           gg 62 56 true <| .bin .sub (t 61) (k 1),
           gg 63 56 true <| .iaddr 11 (t 60) (t 62),
           gg 64 56 true <| .faddr 0 (t 63),
           gg 65 56 true <| .load false 1 (t 64)]
          [gg 66 56 true <| .bin .lss (t 58) (t 65),
           gg 67 53 false <| .pick (t 56) (t 66) (kb false),
           g 68 <| .pick (t 53) (kb true) (t 67)]) <|
        .cond (t 68) (.seq (.reg [g 2 <| .mv (kb false)]) <|
         .ret)
         (.skip)) <|
       .reg [g 69 <| .mv (t 3),
         g 70 <| .load true 11 (t 5),
         g 71 <| .call 17 [(t 69), (t 70)],
         g 3 <| .mv (t 71)]) <|
     .reg [g 34 <| .mv (t 4),
       g 35 <| .bin .add (t 34) (k 1),
       g 4 <| .mv (t 35)]) <|
  .seq (.reg [g 72 <| .mv (t 3),
     g 73 <| .faddr 3 (t 1),
     g 74 <| .load false 1 (t 73),
     g 75 <| .bin .eql (t 72) (t 74),
     g 2 <| .mv (t 75)]) <|
  .ret
theorem r31 : Reads Go.Proofs.Try.prog 31 m31 [.t 2] 76 := ⟨⟨Go.Proofs.Try.f31, _, Go.Proofs.Try.func31, rfl, rfl, by kernel_rfl, by kernel_rfl, by decide⟩⟩
/-- queuelab/queuelabref37.Belongs -/
def m32 : MC :=
  .seq (.reg [g 3 <| .box 5 (t 1),
     g 4 <| .mv (k 0)]) <|
  .seq (.seq (.reg [g 5 <| .mv (k 0)]) <|
   .block 0 <|
    .loop <|
     .seq (.seq (.reg [g 6 <| .mv (t 5),
         g 7 <| .mv (t 0),
         g 8 <| .len (t 7),
         g 9 <| .bin .lss (t 6) (t 8)]) <|
      .cond (t 9) (.skip)
       (.exit 0)) <|
     .seq (.block 1 <|
       .seq (.draw [g 12 <| .mv (t 0),
          g 13 <| .mv (t 5),
          g 14 <| .iaddr 4 (t 12) (t 13),
          g 15 <| .faddr 2 (t 14),
          g 16 <| .load false 1 (t 15),
          g 17 <| .faddr 0 (t 3),
          g 18 <| .load false 1 (t 17),
          g 19 <| .bin .eql (t 16) (t 18),
          g 20 <| .mv (t 19),
          gg 21 20 true <| .mv (t 0),
          gg 22 20 true <| .mv (t 5),
          gg 23 20 true <| .iaddr 4 (t 21) (t 22),
          gg 24 20 true <| .faddr 3 (t 23),
          gg 25 20 true <| .load false 1 (t 24),
          gg 26 20 true <| .faddr 1 (t 3),
          gg 27 20 true <| .load false 1 (t 26)]
         [gg 28 20 true <| .bin .eql (t 25) (t 27),
          g 29 <| .pick (t 20) (t 28) (kb false)]) <|
       .cond (t 29) (.seq (.reg [g 30 <| .mv (t 5),
           g 4 <| .mv (t 30)]) <|
        .ret)
        (.skip)) <|
     .reg [g 10 <| .mv (t 5),
       g 11 <| .bin .add (t 10) (k 1),
       g 5 <| .mv (t 11)]) <|
  .seq (.reg [g 4 <| .mv (k (-1))]) <|
  .ret
theorem r32 : Reads Go.Proofs.Try.prog 32 m32 [.t 4] 31 := ⟨⟨Go.Proofs.Try.f32, _, Go.Proofs.Try.func32, rfl, rfl, by kernel_rfl, by kernel_rfl, by decide⟩⟩
/-- queuelab/queuelabref34.Join -/
def m33 : MC :=
  .seq (.reg [g 2 <| .alloc [(.int .i64 0), (.int .i64 0), (.int .u64 0), (.int .u64 0), (.slice none 0 0)],
     g 3 <| .mv (k 0)]) <|
  .seq (.seq (.reg [g 9 <| .mv (t 0),
      g 10 <| .len (t 9),
      g 11 <| .bin .lss (t 10) (k 1),
      g 12 <| .mv (t 11),
      gg 13 12 false <| .mv (t 0),
      gg 14 12 false <| .len (t 13),
      gg 15 12 false <| .bin .gtr (t 14) (k 32),
      g 16 <| .pick (t 12) (kb true) (t 15)]) <|
   .cond (t 16) (.seq (.reg [g 17 <| .build [(.int .i64 0), (.int .i64 0), (.int .u64 0), (.int .u64 0), (.slice none 0 0)] [],
       gn <| .store 5 (t 2) (t 17),
       g 3 <| .mv (k 1)]) <|
    .ret)
    (.skip)) <|
  .seq (.draw [g 18 <| .mv (t 0),
     g 19 <| .iaddr 5 (t 18) (k 0),
     g 20 <| .faddr 0 (t 19),
     g 21 <| .load false 1 (t 20),
     g 22 <| .mv (t 0),
     g 23 <| .iaddr 5 (t 22) (k 0),
     g 24 <| .faddr 2 (t 23),
     g 25 <| .load false 1 (t 24),
     g 26 <| .build [(.int .i64 0), (.int .i64 0), (.int .u64 0), (.int .u64 0), (.slice none 0 0)] [(0, 1, (t 21)), (2, 1, (t 25))],
     g 4 <| .alloc [(.int .i64 0), (.int .i64 0), (.int .u64 0), (.int .u64 0), (.slice none 0 0)]]
    [gn <| .store 5 (t 4) (t 26)]) <|
  .seq (.seq (.reg [g 5 <| .mv (k 0)]) <|
   .block 0 <|
    .loop <|
     .seq (.seq (.reg [g 27 <| .mv (t 5),
         g 28 <| .mv (t 0),
         g 29 <| .len (t 28),
         g 30 <| .bin .lss (t 27) (t 29)]) <|
      .cond (t 30) (.skip)
       (.exit 0)) <|
     .seq (.block 1 <|
       .seq (.reg [g 33 <| .mv (t 0),
          g 34 <| .mv (t 5),
          g 35 <| .iaddr 5 (t 33) (t 34),
          g 36 <| .load true 5 (t 35),
          g 37 <| .call 31 [(t 36)],
          g 6 <| .mv (t 37)]) <|
       .seq (.seq (.reg [g 38 <| .mv (t 6),
           g 39 <| .un .not (t 38)]) <|
        .cond (t 39) (.seq (.reg [g 40 <| .build [(.int .i64 0), (.int .i64 0), (.int .u64 0), (.int .u64 0), (.slice none 0 0)] [],
            gn <| .store 5 (t 2) (t 40),
            g 3 <| .mv (k 1)]) <|
         .ret)
         (.skip)) <|
       .seq (.reg [g 41 <| .mv (t 0),
          g 42 <| .mv (t 5),
          g 43 <| .iaddr 5 (t 41) (t 42),
          g 44 <| .faddr 1 (t 43),
          g 45 <| .load false 1 (t 44),
          g 46 <| .faddr 1 (t 4),
          gn <| .store 1 (t 46) (t 45)]) <|
       .seq (.reg [g 47 <| .mv (t 0),
          g 48 <| .mv (t 5),
          g 49 <| .iaddr 5 (t 47) (t 48),
          g 50 <| .faddr 3 (t 49),
          g 51 <| .load false 1 (t 50),
          g 52 <| .faddr 3 (t 4),
          gn <| .store 1 (t 52) (t 51)]) <|
       .draw [g 53 <| .faddr 4 (t 4),
         g 54 <| .load false 1 (t 53),
         g 55 <| .mv (t 0),
         g 56 <| .mv (t 5),
         g 57 <| .iaddr 5 (t 55) (t 56),
         g 58 <| .faddr 4 (t 57),
         g 59 <| .load false 1 (t 58)]
        [g 60 <| .append 11 80 (t 54) (t 59),
         g 61 <| .faddr 4 (t 4),
         gn <| .store 1 (t 61) (t 60)]) <|
     .reg [g 31 <| .mv (t 5),
       g 32 <| .bin .add (t 31) (k 1),
       g 5 <| .mv (t 32)]) <|
  .seq (.seq (.reg [g 7 <| .mv (k 1)]) <|
   .block 2 <|
    .loop <|
     .seq (.seq (.reg [g 62 <| .mv (t 7),
         g 63 <| .mv (t 0),
         g 64 <| .len (t 63),
         g 65 <| .bin .lss (t 62) (t 64)]) <|
      .cond (t 65) (.skip)
       (.exit 2)) <|
     .seq (.block 3 <|
       .seq (.draw [g 68 <| .mv (t 0),
          g 69 <| .mv (t 7),
          g 70 <| .iaddr 5 (t 68) (t 69),
          g 71 <| .faddr 0 (t 70),
          g 72 <| .load false 1 (t 71),
          g 73 <| .mv (t 0),
          g 74 <| .mv (t 7),
          g 75 <| .bin .sub (t 74) (k 1),
          g 76 <| .iaddr 5 (t 73) (t 75),
          g 77 <| .faddr 1 (t 76),
          g 78 <| .load false 1 (t 77)]
         [g 79 <| .bin .neq (t 72) (t 78)]) <|
       .cond (t 79) (.seq (.reg [g 80 <| .build [(.int .i64 0), (.int .i64 0), (.int .u64 0), (.int .u64 0), (.slice none 0 0)] [],
           gn <| .store 5 (t 2) (t 80),
           g 3 <| .mv (k 18)]) <|
        .ret)
        (.skip)) <|
     .reg [g 66 <| .mv (t 7),
       g 67 <| .bin .add (t 66) (k 1),
       g 7 <| .mv (t 67)]) <|
  .seq (.seq (.reg [g 8 <| .mv (k 1)]) <|
   .block 4 <|
    .loop <|
     .seq (.seq (.reg [g 81 <| .mv (t 8),
         g 82 <| .mv (t 0),
         g 83 <| .len (t 82),
         g 84 <| .bin .lss (t 81) (t 83)]) <|
      .cond (t 84) (.skip)
       (.exit 4)) <|
     .seq (.block 5 <|
       .seq (.draw [g 87 <| .mv (t 0),
          g 88 <| .mv (t 8),
          g 89 <| .iaddr 5 (t 87) (t 88),
          g 90 <| .faddr 2 (t 89),
          g 91 <| .load false 1 (t 90),
          g 92 <| .mv (t 0),
          g 93 <| .mv (t 8),
          g 94 <| .bin .sub (t 93) (k 1),
          g 95 <| .iaddr 5 (t 92) (t 94),
          g 96 <| .faddr 3 (t 95),
          g 97 <| .load false 1 (t 96)]
         [g 98 <| .bin .neq (t 91) (t 97)]) <|
       .cond (t 98) (.seq (.reg [g 99 <| .build [(.int .i64 0), (.int .i64 0), (.int .u64 0), (.int .u64 0), (.slice none 0 0)] [],
           gn <| .store 5 (t 2) (t 99),
           g 3 <| .mv (k 11)]) <|
        .ret)
        (.skip)) <|
     .reg [g 85 <| .mv (t 8),
       g 86 <| .bin .add (t 85) (k 1),
       g 8 <| .mv (t 86)]) <|
  .seq (.seq (.reg [g 100 <| .faddr 4 (t 4),
      g 101 <| .load false 1 (t 100),
      g 102 <| .len (t 101),
      g 103 <| .bin .gtr (t 102) (k 5000)]) <|
   .cond (t 103) (.seq (.reg [g 104 <| .build [(.int .i64 0), (.int .i64 0), (.int .u64 0), (.int .u64 0), (.slice none 0 0)] [],
       gn <| .store 5 (t 2) (t 104),
       g 3 <| .mv (k 2)]) <|
    .ret)
    (.skip)) <|
  .seq (.reg [g 105 <| .load true 5 (t 4),
     gn <| .store 5 (t 2) (t 105),
     g 3 <| .mv (k 0)]) <|
  .ret
theorem r33 : Reads Go.Proofs.Try.prog 33 m33 [.c 2 true 5, .t 3] 106 := ⟨⟨Go.Proofs.Try.f33, _, Go.Proofs.Try.func33, rfl, rfl, by kernel_rfl, by kernel_rfl, by decide⟩⟩
/-- queuelab/queuelabref32.Records -/
def m34 : MC :=
  .seq (.reg [g 4 <| .mv (kb false)]) <|
  .seq (.seq (.reg [g 6 <| .mv (t 0),
      g 7 <| .len (t 6),
      g 8 <| .mv (t 1),
      g 9 <| .len (t 8),
      g 10 <| .bin .neq (t 7) (t 9)]) <|
   .cond (t 10) (.seq (.reg [g 4 <| .mv (kb false)]) <|
    .ret)
    (.skip)) <|
  .seq (.seq (.reg [g 5 <| .mv (k 0)]) <|
   .block 0 <|
    .loop <|
     .seq (.seq (.reg [g 11 <| .mv (t 5),
         g 12 <| .mv (t 0),
         g 13 <| .len (t 12),
         g 14 <| .bin .lss (t 11) (t 13)]) <|
      .cond (t 14) (.skip)
       (.exit 0)) <|
     .seq (.block 1 <|
       .seq (.draw [g 17 <| .mv (t 0),
          g 18 <| .mv (t 5),
          g 19 <| .iaddr 11 (t 17) (t 18),
          g 20 <| .load true 11 (t 19),
          g 21 <| .mv (t 1),
          g 22 <| .mv (t 5),
          g 23 <| .iaddr 11 (t 21) (t 22),
          g 24 <| .load true 11 (t 23)]
         [g 25 <| .beqs true [0, 0, 0, 0, 0, 0, 0, 0, 0, 1, 1] (t 20) (t 24)]) <|
       .cond (t 25) (.seq (.reg [g 4 <| .mv (kb false)]) <|
        .ret)
        (.skip)) <|
     .reg [g 15 <| .mv (t 5),
       g 16 <| .bin .add (t 15) (k 1),
       g 5 <| .mv (t 16)]) <|
  .seq (.reg [g 4 <| .mv (kb true)]) <|
  .ret
theorem r34 : Reads Go.Proofs.Try.prog 34 m34 [.t 4] 26 := ⟨⟨Go.Proofs.Try.f34, _, Go.Proofs.Try.func34, rfl, rfl, by kernel_rfl, by kernel_rfl, by decide⟩⟩
/-- queuelab/queuelabref32.eight -/
def m35 : MC :=
  .seq (.reg [g 4 <| .mv (.const (.int .u64 0))]) <|
  .seq (.reg [g 7 <| .mv (t 1),
     g 8 <| .conv .u64 (t 7),
     g 5 <| .mv (t 8)]) <|
  .seq (.seq (.reg [g 6 <| .mv (k 0)]) <|
   .block 0 <|
    .loop <|
     .seq (.seq (.reg [g 9 <| .mv (t 6),
         g 10 <| .bin .lss (t 9) (k 8)]) <|
      .cond (t 10) (.skip)
       (.exit 0)) <|
     .seq (.block 1 <|
       .seq (.reg [g 13 <| .mv (t 0),
          g 14 <| .mv (t 5),
          g 15 <| .bin .rem (t 14) (.const (.int .u64 256)),
          g 16 <| .bin .xor (t 13) (t 15),
          g 17 <| .bin .mul (t 16) (.const (.int .u64 1099511628211)),
          g 0 <| .mv (t 17)]) <|
       .reg [g 18 <| .mv (t 5),
         g 19 <| .bin .quo (t 18) (.const (.int .u64 256)),
         g 5 <| .mv (t 19)]) <|
     .reg [g 11 <| .mv (t 6),
       g 12 <| .bin .add (t 11) (k 1),
       g 6 <| .mv (t 12)]) <|
  .seq (.reg [g 20 <| .mv (t 0),
     g 4 <| .mv (t 20)]) <|
  .ret
theorem r35 : Reads Go.Proofs.Try.prog 35 m35 [.t 4] 21 := ⟨⟨Go.Proofs.Try.f35, _, Go.Proofs.Try.func35, rfl, rfl, by kernel_rfl, by kernel_rfl, by decide⟩⟩
/-- queuelab/workers.divided$1 -/
def m36 : MC :=
  .seq (.reg [g 5 <| .mv (k 0)]) <|
  .seq (.draw [g 6 <| .load false 1 (t 1),
     g 7 <| .load false 1 (t 2),
     g 8 <| .load false 1 (t 1),
     g 9 <| .bin .sub (t 7) (t 8),
     g 10 <| .mv (t 0),
     g 11 <| .bin .mul (t 9) (t 10),
     g 12 <| .load false 1 (t 3),
     g 13 <| .bin .quo (t 11) (t 12)]
    [g 14 <| .bin .add (t 6) (t 13),
     g 5 <| .mv (t 14)]) <|
  .ret
theorem r36 : Reads Go.Proofs.Try.prog 36 m36 [.t 5] 15 := ⟨⟨Go.Proofs.Try.f36, _, Go.Proofs.Try.func36, rfl, rfl, by kernel_rfl, by kernel_rfl, by decide⟩⟩
/-- queuelab/workers.divided$2 -/
def m37 : MC :=
  .seq (.reg [g 5 <| .load false 1 (t 1),
     g 6 <| .mv (k 0)]) <|
  .block 0 <|
   .loop <|
    .seq (.reg [g 7 <| .bin .lss (t 6) (t 5)]) <|
    .seq (.cond (t 7) (.skip)
      (.exit 0)) <|
    .seq (.block 1 <|
      .seq (.reg [g 8 <| .mv (t 6),
         g 4 <| .mv (t 8)]) <|
      .seq (.draw [g 9 <| .mv (t 0),
         g 10 <| .mv (t 4),
         g 11 <| .load false 1 (t 2),
         g 12 <| .mv (t 4),
         g 13 <| .callv (t 11) [(t 12)],
         g 14 <| .load false 1 (t 2),
         g 15 <| .mv (t 4),
         g 16 <| .bin .add (t 15) (k 1),
         g 17 <| .callv (t 14) [(t 16)],
         g 18 <| .build [(.int .i64 0), (.int .i64 0)] [(0, 1, (t 13)), (1, 1, (t 17))]]
        [g 19 <| .callv (t 9) [(t 10), (t 18)],
         g 20 <| .un .not (t 19)]) <|
      .cond (t 20) (.ret)
       (.skip)) <|
    .reg [g 21 <| .bin .add (t 6) (k 1),
      g 6 <| .mv (t 21)]
theorem r37 : Reads Go.Proofs.Try.prog 37 m37 [] 22 := ⟨⟨Go.Proofs.Try.f37, _, Go.Proofs.Try.func37, rfl, rfl, by kernel_rfl, by kernel_rfl, by decide⟩⟩
/-- queuelab/cut.isSegment -/
def m38 : MC :=
  .seq (.reg [g 1 <| .box 5 (t 0),
     g 2 <| .mv (kb false)]) <|
  .seq (.seq (.reg [g 7 <| .faddr 0 (t 1),
      g 8 <| .load false 1 (t 7),
      g 9 <| .bin .lss (t 8) (k 0),
      g 10 <| .mv (t 9),
      gg 11 10 false <| .faddr 0 (t 1),
      gg 12 10 false <| .load false 1 (t 11),
      gg 13 10 false <| .faddr 1 (t 1),
      gg 14 10 false <| .load false 1 (t 13),
      gg 15 10 false <| .bin .gtr (t 12) (t 14),
      g 16 <| .pick (t 10) (kb true) (t 15),
      g 17 <| .mv (t 16),
      gg 18 17 false <| .faddr 1 (t 1),
      gg 19 17 false <| .load false 1 (t 18),
      gg 20 17 false <| .bin .gtr (t 19) (k 10000000),
      g 21 <| .pick (t 17) (kb true) (t 20),
      g 22 <| .mv (t 21),
      gg 23 22 false <| .faddr 4 (t 1),
      gg 24 22 false <| .load false 1 (t 23),
      gg 25 22 false <| .len (t 24),
      gg 26 22 false <| .bin .gtr (t 25) (k 5000),
      g 27 <| .pick (t 22) (kb true) (t 26)]) <|
   .cond (t 27) (.seq (.reg [g 2 <| .mv (kb false)]) <|
    .ret)
    (.skip)) <|
  .seq (.draw [g 28 <| .faddr 2 (t 1),
     g 29 <| .load false 1 (t 28),
     g 30 <| .faddr 0 (t 1),
     g 31 <| .load false 1 (t 30),
     g 3 <| .mv (t 29)]
    [g 4 <| .mv (t 31)]) <|
  .seq (.seq (.reg [g 32 <| .faddr 4 (t 1),
      g 33 <| .load false 1 (t 32),
      g 34 <| .len (t 33),
      g 35 <| .mv (k 0)]) <|
   .block 0 <|
    .loop <|
     .seq (.reg [g 36 <| .bin .lss (t 35) (t 34)]) <|
     .seq (.cond (t 36) (.skip)
       (.exit 0)) <|
     .seq (.block 1 <|
       .seq (.reg [g 37 <| .iaddr 11 (t 33) (t 35),
          g 38 <| .load true 11 (t 37),
          g 6 <| .alloc [(.int .i64 0), (.int .i64 0), (.int .i64 0), (.int .i64 0), (.int .i64 0), (.int .i64 0), (.int .i64 0), (.int .i64 0), (.int .i64 0), (.bool false), (.bool false)],
          gn <| .store 11 (t 6) (t 38)]) <|
       .seq (.seq (.reg [g 39 <| .faddr 0 (t 6),
           g 40 <| .load false 1 (t 39),
           g 41 <| .mv (t 4),
           g 42 <| .bin .lss (t 40) (t 41),
           g 43 <| .mv (t 42),
           gg 44 43 false <| .faddr 0 (t 6),
           gg 45 43 false <| .load false 1 (t 44),
           gg 46 43 false <| .faddr 1 (t 1),
           gg 47 43 false <| .load false 1 (t 46),
           gg 48 43 false <| .bin .geq (t 45) (t 47),
           g 49 <| .pick (t 43) (kb true) (t 48)]) <|
        .cond (t 49) (.seq (.reg [g 2 <| .mv (kb false)]) <|
         .ret)
         (.skip)) <|
       .draw [g 50 <| .mv (t 3),
         g 51 <| .load true 11 (t 6),
         g 52 <| .call 45 [(t 50), (t 51)],
         g 53 <| .faddr 0 (t 6),
         g 54 <| .load false 1 (t 53),
         g 3 <| .mv (t 52)]
        [g 4 <| .mv (t 54)]) <|
     .reg [g 55 <| .bin .add (t 35) (k 1),
       g 35 <| .mv (t 55)]) <|
  .seq (.reg [g 56 <| .mv (t 3),
     g 57 <| .faddr 3 (t 1),
     g 58 <| .load false 1 (t 57),
     g 59 <| .bin .eql (t 56) (t 58),
     g 2 <| .mv (t 59)]) <|
  .ret
theorem r38 : Reads Go.Proofs.Try.prog 38 m38 [.t 2] 60 := ⟨⟨Go.Proofs.Try.f38, _, Go.Proofs.Try.func38, rfl, rfl, by kernel_rfl, by kernel_rfl, by decide⟩⟩
/-- queuelab/cut.all -/
def m39 : MC :=
  .seq (.reg [g 4 <| .mv (kb false)]) <|
  .seq (.seq (.reg [g 6 <| .mv (t 1),
      g 7 <| .len (t 6),
      g 8 <| .bin .sub (t 7) (k 1),
      g 9 <| .mv (k 0)]) <|
   .block 0 <|
    .loop <|
     .seq (.reg [g 10 <| .bin .lss (t 9) (t 8)]) <|
     .seq (.cond (t 10) (.skip)
       (.exit 0)) <|
     .seq (.block 1 <|
       .seq (.reg [g 11 <| .mv (t 9),
          g 5 <| .mv (t 11)]) <|
       .seq (.draw [g 12 <| .mv (t 0),
          g 13 <| .mv (t 1),
          g 14 <| .mv (t 5),
          g 15 <| .iaddr 5 (t 13) (t 14),
          g 16 <| .load true 5 (t 15),
          g 17 <| .mv (t 1),
          g 18 <| .mv (t 5),
          g 19 <| .bin .add (t 18) (k 1),
          g 20 <| .iaddr 5 (t 17) (t 19),
          g 21 <| .load true 5 (t 20)]
         [g 22 <| .callv (t 12) [(t 16), (t 21)],
          g 23 <| .un .not (t 22)]) <|
       .cond (t 23) (.seq (.reg [g 4 <| .mv (kb false)]) <|
        .ret)
        (.skip)) <|
     .reg [g 24 <| .bin .add (t 9) (k 1),
       g 9 <| .mv (t 24)]) <|
  .seq (.reg [g 4 <| .mv (kb true)]) <|
  .ret
theorem r39 : Reads Go.Proofs.Try.prog 39 m39 [.t 4] 25 := ⟨⟨Go.Proofs.Try.f39, _, Go.Proofs.Try.func39, rfl, rfl, by kernel_rfl, by kernel_rfl, by decide⟩⟩
/-- queuelab/cut.Join$1 -/
def m40 : MC :=
  .seq (.reg [g 2 <| .box 5 (t 0),
     g 3 <| .box 5 (t 1),
     g 4 <| .mv (kb false)]) <|
  .seq (.reg [g 5 <| .faddr 1 (t 2),
     g 6 <| .load false 1 (t 5),
     g 7 <| .faddr 0 (t 3),
     g 8 <| .load false 1 (t 7),
     g 9 <| .bin .eql (t 6) (t 8),
     g 4 <| .mv (t 9)]) <|
  .ret
theorem r40 : Reads Go.Proofs.Try.prog 40 m40 [.t 4] 10 := ⟨⟨Go.Proofs.Try.f40, _, Go.Proofs.Try.func40, rfl, rfl, by kernel_rfl, by kernel_rfl, by decide⟩⟩
/-- queuelab/cut.Join$2 -/
def m41 : MC :=
  .seq (.reg [g 2 <| .box 5 (t 0),
     g 3 <| .box 5 (t 1),
     g 4 <| .mv (kb false)]) <|
  .seq (.reg [g 5 <| .faddr 3 (t 2),
     g 6 <| .load false 1 (t 5),
     g 7 <| .faddr 2 (t 3),
     g 8 <| .load false 1 (t 7),
     g 9 <| .bin .eql (t 6) (t 8),
     g 4 <| .mv (t 9)]) <|
  .ret
theorem r41 : Reads Go.Proofs.Try.prog 41 m41 [.t 4] 10 := ⟨⟨Go.Proofs.Try.f41, _, Go.Proofs.Try.func41, rfl, rfl, by kernel_rfl, by kernel_rfl, by decide⟩⟩
/-- slices.Collect[queuelab/api.Segment] -/
def m42 : MC :=
  .seq (.reg [g 2 <| .mv (.const (.slice none 0 0))]) <|
  .seq (.reg [g 3 <| .mv (t 0),
     g 4 <| .call 46 [(.const (.slice none 0 0)), (t 3)],
     g 2 <| .mv (t 4)]) <|
  .ret
theorem r42 : Reads Go.Proofs.Try.prog 42 m42 [.t 2] 5 := ⟨⟨Go.Proofs.Try.f42, _, Go.Proofs.Try.func42, rfl, rfl, by kernel_rfl, by kernel_rfl, by decide⟩⟩
/-- slices.SortFunc[[]queuelab/api.Segment,queuelab/api.Segment] -/
def m43 : MC :=
  .seq (.reg [g 5 <| .mv (t 0),
     g 6 <| .len (t 5),
     g 4 <| .mv (t 6)]) <|
  .reg [g 7 <| .mv (t 0),
    g 8 <| .mv (t 4),
    g 9 <| .mv (t 4),
    g 10 <| .conv .u64 (t 9),
    g 11 <| .call 48 [(t 10)],
    g 12 <| .mv (t 1),
    g 13 <| .call 47 [(t 7), (k 0), (t 8), (t 11), (t 12)]]
theorem r43 : Reads Go.Proofs.Try.prog 43 m43 [] 14 := ⟨⟨Go.Proofs.Try.f43, _, Go.Proofs.Try.func43, rfl, rfl, by kernel_rfl, by kernel_rfl, by decide⟩⟩
/-- slices.Values[[]queuelab/api.Segment,queuelab/api.Segment]$1 -/
def m44 : MC :=
  .seq (.reg [g 5 <| .load false 1 (t 1),
     g 6 <| .len (t 5),
     g 7 <| .mv (k 0)]) <|
  .block 0 <|
   .loop <|
    .seq (.reg [g 8 <| .bin .lss (t 7) (t 6)]) <|
    .seq (.cond (t 8) (.skip)
      (.exit 0)) <|
    .seq (.block 1 <|
      .seq (.reg [g 9 <| .iaddr 5 (t 5) (t 7),
         g 10 <| .load true 5 (t 9),
         g 4 <| .alloc [(.int .i64 0), (.int .i64 0), (.int .u64 0), (.int .u64 0), (.slice none 0 0)],
         gn <| .store 5 (t 4) (t 10)]) <|
      .seq (.reg [g 11 <| .mv (t 0),
         g 12 <| .load true 5 (t 4),
         g 13 <| .callv (t 11) [(t 12)],
         g 14 <| .un .not (t 13)]) <|
      .cond (t 14) (.ret)
       (.skip)) <|
    .reg [g 15 <| .bin .add (t 7) (k 1),
      g 7 <| .mv (t 15)]
theorem r44 : Reads Go.Proofs.Try.prog 44 m44 [] 16 := ⟨⟨Go.Proofs.Try.f44, _, Go.Proofs.Try.func44, rfl, rfl, by kernel_rfl, by kernel_rfl, by decide⟩⟩
/-- queuelab/ledger.Digest -/
def m45 : MC :=
  .seq (.reg [g 3 <| .box 11 (t 1),
     g 4 <| .mv (.const (.int .u64 0))]) <|
  .seq (.seq (.reg [g 8 <| .load true 11 (t 3),
      g 9 <| .call 49 [(t 8)],
      g 10 <| .mv (k 0)]) <|
   .block 0 <|
    .loop <|
     .seq (.reg [g 11 <| .bin .lss (t 10) (k 10)]) <|
     .seq (.cond (t 11) (.skip)
       (.exit 0)) <|
     .seq (.block 1 <|
       .seq (.reg [g 12 <| .idx 10 1 false (t 9) (t 10),
          g 6 <| .mv (t 12)]) <|
       .seq (.reg [g 7 <| .mv (k 0)]) <|
       .block 2 <|
        .loop <|
         .seq (.seq (.reg [g 13 <| .mv (t 7),
             g 14 <| .bin .lss (t 13) (k 64)]) <|
          .cond (t 14) (.skip)
           (.exit 2)) <|
         .seq (.block 3 <|
           .reg [g 17 <| .mv (t 0),
             g 18 <| .mv (t 6),
             g 19 <| .conv .u64 (t 18),
             g 20 <| .mv (t 7),
             g 21 <| .bin .shr (t 19) (t 20),
             g 22 <| .bin .and (t 21) (.const (.int .u64 255)),
             g 23 <| .bin .xor (t 17) (t 22),
             g 24 <| .bin .mul (t 23) (.const (.int .u64 1099511628211)),
             g 0 <| .mv (t 24)]) <|
         .reg [g 15 <| .mv (t 7),
           g 16 <| .bin .add (t 15) (k 8),
           g 7 <| .mv (t 16)]) <|
     .reg [g 25 <| .bin .add (t 10) (k 1),
       g 10 <| .mv (t 25)]) <|
  .seq (.reg [g 26 <| .mv (t 0),
     g 4 <| .mv (t 26)]) <|
  .ret
theorem r45 : Reads Go.Proofs.Try.prog 45 m45 [.t 4] 27 := ⟨⟨Go.Proofs.Try.f45, _, Go.Proofs.Try.func45, rfl, rfl, by kernel_rfl, by kernel_rfl, by decide⟩⟩
/-- slices.AppendSeq[[]queuelab/api.Segment,queuelab/api.Segment] -/
def m46 : MC :=
  .seq (.reg [g 2 <| .box 1 (t 0),
     g 4 <| .mv (.const (.slice none 0 0))]) <|
  .seq (.seq (.reg [g 6 <| .mv (t 1)]) <|
   .block 0 <|
    .rng (t 6) [7]
     (.reg [g 5 <| .alloc [(.int .i64 0), (.int .i64 0), (.int .u64 0), (.int .u64 0), (.slice none 0 0)],
        gn <| .store 5 (t 5) (t 7)])
     (.block 1 <|
       .reg [g 8 <| .load false 1 (t 2),
         g 9 <| .load true 5 (t 5),
         g 10 <| .bsl 5 1 [(.int .i64 0), (.int .i64 0), (.int .u64 0), (.int .u64 0), (.slice none 0 0)] [(0, 5, (t 9))],
         g 11 <| .append 5 56 (t 8) (t 10),
         gn <| .store 1 (t 2) (t 11)])) <|
  .seq (.reg [g 12 <| .load false 1 (t 2),
     g 4 <| .mv (t 12)]) <|
  .ret
theorem r46 : Reads Go.Proofs.Try.prog 46 m46 [.t 4] 13 := ⟨⟨Go.Proofs.Try.f46, _, Go.Proofs.Try.func46, rfl, rfl, by kernel_rfl, by kernel_rfl, by decide⟩⟩
/-- queuelab/ledger.numbers -/
def m49 : MC :=
  .seq (.reg [g 1 <| .box 11 (t 0),
     g 2 <| .alloc [(.int .i64 0), (.int .i64 0), (.int .i64 0), (.int .i64 0), (.int .i64 0), (.int .i64 0), (.int .i64 0), (.int .i64 0), (.int .i64 0), (.int .i64 0)]]) <|
  .seq (.reg [g 3 <| .mv (k 0)]) <|
  .seq (.seq (.reg [g 4 <| .faddr 3 (t 1),
      g 5 <| .faddr 6 (t 4),
      g 6 <| .load false 1 (t 5)]) <|
   .cond (t 6) (.reg [g 3 <| .mv (k 1)])
    (.skip)) <|
  .seq (.seq (.reg [g 7 <| .faddr 3 (t 1),
      g 8 <| .faddr 7 (t 7),
      g 9 <| .load false 1 (t 8)]) <|
   .cond (t 9) (.reg [g 10 <| .mv (t 3),
      g 11 <| .bin .add (t 10) (k 2),
      g 3 <| .mv (t 11)])
    (.skip)) <|
  .seq (.reg [g 12 <| .faddr 0 (t 1),
     g 13 <| .load false 1 (t 12),
     g 14 <| .faddr 1 (t 1),
     g 15 <| .load false 1 (t 14),
     g 16 <| .faddr 2 (t 1),
     g 17 <| .load false 1 (t 16),
     g 18 <| .faddr 3 (t 1),
     g 19 <| .faddr 0 (t 18),
     g 20 <| .load false 1 (t 19),
     g 21 <| .faddr 3 (t 1),
     g 22 <| .faddr 1 (t 21),
     g 23 <| .load false 1 (t 22),
     g 24 <| .faddr 3 (t 1),
     g 25 <| .faddr 2 (t 24),
     g 26 <| .load false 1 (t 25),
     g 27 <| .faddr 3 (t 1),
     g 28 <| .faddr 3 (t 27),
     g 29 <| .load false 1 (t 28),
     g 30 <| .faddr 3 (t 1),
     g 31 <| .faddr 4 (t 30),
     g 32 <| .load false 1 (t 31),
     g 33 <| .faddr 3 (t 1),
     g 34 <| .faddr 5 (t 33),
     g 35 <| .load false 1 (t 34),
     g 36 <| .mv (t 3),
     g 37 <| .build [(.int .i64 0), (.int .i64 0), (.int .i64 0), (.int .i64 0), (.int .i64 0), (.int .i64 0), (.int .i64 0), (.int .i64 0), (.int .i64 0), (.int .i64 0)] [(0, 1, (t 13)), (1, 1, (t 15)), (2, 1, (t 17)), (3, 1, (t 20)), (4, 1, (t 23)), (5, 1, (t 26)), (6, 1, (t 29)), (7, 1, (t 32)), (8, 1, (t 35)), (9, 1, (t 36))],
     gn <| .store 10 (t 2) (t 37)]) <|
  .ret
theorem r49 : Reads Go.Proofs.Try.prog 49 m49 [.c 2 true 10] 38 := ⟨⟨Go.Proofs.Try.f49, _, Go.Proofs.Try.func49, rfl, rfl, by kernel_rfl, by kernel_rfl, by decide⟩⟩
end Go.QL
